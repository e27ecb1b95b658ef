/- Regions that draw their order, in which a call may panic: the frame has no deferred calls, the panic goes on to its caller. -/
import Derived.Test.YtcibnfjpagmdaaaHire
import Derived.Test.YtcibnfjpagmdaaaMap
set_option linter.unusedSimpArgs false
set_option linter.unusedVariables false
namespace Go.TX
open Go.Conc

section
variable {P : Program} {J : Judge P} {N : List PanicEntry → Cfg → World → Prop} {σ : Cfg} {w : World} {b : Frame} {a : Act} {k : List Item} {cs : List Frame}
variable {fn : FuncId} {ops : Array Oper} {md : Region.Mode} {S : Cfg → World → Prop} {X : Nat → Bool} {Q : Act → Cfg → World → Prop}

/-- Operation i comes up; K is asked of the state in which it ends. -/
def OpN (J : Judge P) (N : List PanicEntry → Cfg → World → Prop) (fn : FuncId) (ops : Array Oper) (i : Nat) (K : Act → Cfg → World → Prop) (a : Act) (σ : Cfg) (w : World) : Prop :=
  match ops[i]? with
  | none => False
  | some o => if Region.wanted o (yielded ops a.tmps) then ∀ d, σ.Sound w → didOf o a (fun D w' => ∃ w'' d', w' = w''.at d' ∧ OkayQ σ (w.at d) w' (listed P fn a o (w.at d)) ∧
      match D with
      | .act a' => K a' σ w''
      | .call f args => a.defers = [] ∧ CallsX J f args σ w'' (fun v σ' w₃ => K (a.put o.dst v) σ' w₃) N
      | .panic _ => False) ((execOp a.eval o).run P (w.at d)) else K (a.put o.dst undef) σ w

theorem OpN_mono {i : Nat} {K K' : Act → Cfg → World → Prop} (h : ∀ a σ w, K a σ w → K' a σ w) (hh : OpN J N fn ops i K a σ w) : OpN J N fn ops i K' a σ w := by
  unfold OpN at *
  split
  · simp_all
  · rename_i o ho
    simp only [ho] at hh
    split
    · rename_i hw
      simp only [hw, if_true] at hh
      intro d hs
      refine didOf_mono (fun D w' x => ?_) (hh d hs)
      obtain ⟨w'', d', e, hok, hD⟩ := x
      refine ⟨w'', d', e, hok, ?_⟩
      cases D with
      | act a' => exact h _ _ _ hD
      | call f args => exact ⟨hD.1, CallsX.mono hD.2 fun v σ' w₃ => h _ _ _⟩
      | panic v => exact hD
    · rename_i hw; simp only [hw] at hh; exact h _ _ _ hh

theorem y_opN {i : Nat} {rest : List Nat} (HN : ∀ ch σ' w' a todo, a.defers = [] → N ch σ' w' → J.Y σ' (G { b.at a todo with mode := .panicking ch } cs) w') (hk : (b.kind == CallKind.early) = false) (h : OpN J N b.fn ops i (fun a' σ' w' => J.Y σ' (G (b.at a' (.inRegion ops rest :: k)) cs) w') a σ w) : J.Y σ (G (b.at a (.inRegion ops (i :: rest) :: k)) cs) w := by
  unfold OpN at h
  split at h
  · exact h.elim
  · rename_i o ho
    split at h
    · rename_i hw
      refine y_op ho hw hk fun d hs K hK => didOf_mono (fun D w' x => ?_) (h d hs)
      obtain ⟨w'', d', rfl, hok, hD⟩ := x
      refine hK D w'' d' hok ?_
      have hfin : ∀ v, (b.at a (.inRegion ops (i :: rest) :: k)).finish v = b.at (a.put o.dst v) (.inRegion ops rest :: k) := by
        intro v; rw [Frame.finish_at, ho]; rfl
      cases D with
      | act a' => exact hD
      | call f args => exact hD.2 _ cs (fun v σ' w₃ r => by rw [hfin]; exact r) fun ch σ' w' x => HN ch σ' w' a _ hD.1 x
      | panic v => exact hD.elim
    · rename_i hw; exact y_unwanted ho (by simpa using hw) h

/-- Whatever order is picked from here on, and S holds behind every operation. -/
def AnyN (J : Judge P) (N : List PanicEntry → Cfg → World → Prop) (fn : FuncId) (md : Region.Mode) (ops : Array Oper) (Q : Act → Cfg → World → Prop) (S : Cfg → World → Prop) (X : Nat → Bool) : Nat → Array Bool → Act → Cfg → World → Prop
  | 0, listed, a, σ, w => Region.ready md ops listed = [] ∧ Q a σ w
  | fuel + 1, listed, a, σ, w =>
    (Region.ready md ops listed = [] → Q a σ w) ∧
    ∀ i ∈ Region.ready md ops listed, OpN J N fn ops i (fun a' σ' w' => (X i = false → S σ' w') ∧ AnyN J N fn md ops Q S X fuel (listed.setIfInBounds i true) a' σ' w') a σ w

theorem anyN_sound (HN : ∀ ch σ' w' a todo, a.defers = [] → N ch σ' w' → J.Y σ' (G { b.at a todo with mode := .panicking ch } cs) w') (hk : (b.kind == CallKind.early) = false) (hQ : ∀ a σ w, Q a σ w → J.Y σ (G (b.at a k) cs) w) : ∀ (fuel t : Nat) (listed : Array Bool) (a : Act) (σ : Cfg) (w : World), AnyN J N b.fn md ops Q S X fuel listed a σ w →
    J.Y σ (G (b.at a (.inRegion ops (Region.linearise.go md ops fuel t listed []) :: k)) cs) w := by
  intro fuel
  induction fuel with
  | zero => intro t listed a σ w h; simpa [Region.linearise.go] using y_regionEnd (hQ _ _ _ h.2)
  | succ fuel ih =>
    intro t listed a σ w h
    obtain ⟨h₀, h₁⟩ := h
    simp only [Region.linearise.go]
    change J.Y σ (G (b.at a (.inRegion ops (match (Region.ready md ops listed)[t % (Region.ready md ops listed).length]? with
      | some i => Region.linearise.go md ops fuel (t / (Region.ready md ops listed).length) (listed.setIfInBounds i true) [i]
      | none => [].reverse) :: k)) cs) w
    cases hi : (Region.ready md ops listed)[t % (Region.ready md ops listed).length]? with
    | none =>
      have hnil : Region.ready md ops listed = [] := by
        cases hr : Region.ready md ops listed with
        | nil => rfl
        | cons x xs =>
          rw [hr] at hi
          have hlt : t % (x :: xs).length < (x :: xs).length := Nat.mod_lt _ (by simp)
          simp at hi
          simp at hlt
          omega
      simpa using y_regionEnd (ops := ops) (hQ _ _ _ (h₀ hnil))
    | some i =>
      simp only []
      rw [linearise_go_acc, List.reverse_singleton, List.singleton_append]
      exact y_opN HN hk (OpN_mono (fun a' σ' w' x => ih _ _ a' σ' w' x.2) (h₁ i (List.mem_of_getElem? hi)))

theorem YieldsX.opN {i : Nat} {o : Oper} {v : Value} (hi : ops[i]? = some o) (hy : YieldsX P ops S o v a) {K : Act → Cfg → World → Prop} (hS : S σ w) (h : K (a.put o.dst v) σ w) : OpN J N fn ops i K a σ w := by
  unfold OpN
  simp only [hi]
  rcases hy with ⟨hw, hnw, hv⟩ | ⟨hw, rfl⟩
  · simp only [hw, if_true]
    intro d hs
    have hok := okayQ_nw (P := P) (w := w) (fn := fn) (d := d) hs hnw
    rw [hv σ w hS d] at hok ⊢
    exact ⟨w, d, rfl, hok, h⟩
  · simp only [hw, Bool.false_eq_true, if_false]; exact h

/-- One operation oj, apart from oi: whether oi's value is already in its temporary makes no difference to it, and it makes none to oi. -/
theorem OpN_putIf {j : Nat} {oi oj : Oper} {v : Value} (hj : ops[j]? = some oj) (hap : oi.apart ops oj = true)
    (hsi : ∀ cs b, oi.op ≠ .select cs b) (hsj : ∀ cs b, oj.op ≠ .select cs b) {K : Act → Cfg → World → Prop}
    (hy : YieldsX P ops S oi v a) (h : OpN J N fn ops j K (a.put oi.dst v) σ w) :
    OpN J N fn ops j (fun a' σ' w' => YieldsX P ops S oi v a' ∧ K (a'.put oi.dst v) σ' w') a σ w := by
  obtain ⟨h1, h2, h3⟩ := Oper.apart_spec hap
  have keep : ∀ (a : Act), YieldsX P ops S oi v a → ∀ u, YieldsX P ops S oi v (a.put oj.dst u) := fun a hy u =>
    hy.of_same (execOp_put oi hsi a oj.dst u h3) (wanted_put oi a oj.dst u h3)
  unfold OpN at *
  simp only [hj] at *
  rw [wanted_put oj a oi.dst v h1] at h
  split
  · rename_i hw
    simp only [hw, if_true] at h
    intro d hs
    have h := h d hs
    unfold listed at *
    rw [execOp_put oj hsj a oi.dst v h1] at h
    generalize (execOp a.eval oj).run P (w.at d) = r at *
    cases r with
    | ok n w' =>
      cases n <;> simp only [didOf] at h ⊢
      case value u =>
        obtain ⟨w'', d', e, hok, hK⟩ := h
        exact ⟨w'', d', e, hok, keep a hy u, by rw [← Act.put_comm a v u h2]; exact hK⟩
      case skip =>
        obtain ⟨w'', d', e, hok, hK⟩ := h
        exact ⟨w'', d', e, hok, keep a hy _, by rw [← Act.put_comm a v undef h2]; exact hK⟩
      case defer dd =>
        obtain ⟨w'', d', e, hok, hK⟩ := h
        refine ⟨w'', d', e, hok, ?_, ?_⟩
        · exact (keep a hy undef).of_same (by cases oj.dst <;> rfl) (by cases oj.dst <;> rfl)
        · rw [← Act.put_comm _ v undef h2, ← Act.put_defers]; exact hK
      case enter f args =>
        obtain ⟨w'', d', e, hok, hK⟩ := h
        exact ⟨w'', d', e, hok, by have := hK.1; cases hd : oi.dst <;> simp_all [Act.put], CallsX.mono hK.2 fun u σ' w₃ x => ⟨keep a hy u, by rw [← Act.put_comm a v u h2]; exact x⟩⟩
    | halt x w' =>
      cases x <;> simp only [didOf] at h
      obtain ⟨_, _, _, _, h⟩ := h
      exact h.elim
  · rename_i hw
    simp only [hw] at h
    exact ⟨keep a hy _, by rw [← Act.put_comm a v undef h2]; exact h⟩

theorem anyN_first {i : Nat} {oi : Oper} {v : Value} (hi : ops[i]? = some oi) (hX : ∀ (j : Nat) (oj : Oper), ops[j]? = some oj → X j = true → ∃ e ∈ oj.after, Region.binds md e = true ∧ e.on = i) (hsel : ∀ (j : Nat) (o : Oper) cs b, ops[j]? = some o → o.op ≠ .select cs b) :
    ∀ (fuel : Nat) (listed : Array Bool) (a : Act) (σ : Cfg) (w : World),
      (∀ j oj, ops[j]? = some oj → j ≠ i → listed.getD j true = false → (∀ e ∈ oj.after, Region.binds md e = true → e.on ≠ i) → oi.apart ops oj = true) →
      i ∈ Region.ready md ops listed → YieldsX P ops S oi v a → S σ w →
      AnyN J N fn md ops Q S X fuel (listed.setIfInBounds i true) (a.put oi.dst v) σ w → AnyN J N fn md ops Q S X (fuel + 1) listed a σ w := by
  intro fuel
  induction fuel with
  | zero =>
    intro listed a σ w _ hr hy hS H
    refine ⟨fun h => (by rw [h] at hr; cases hr), fun j hj => ?_⟩
    by_cases hji : j = i
    · subst hji; exact hy.opN hi hS ⟨fun _ => hS, H⟩
    · have := ready_mono hj hji
      rw [H.1] at this
      cases this
  | succ fuel ih =>
    intro listed a σ w hfree hr hy hS H
    refine ⟨fun h => (by rw [h] at hr; cases hr), fun j hj => ?_⟩
    by_cases hji : j = i
    · subst hji; exact hy.opN hi hS ⟨fun _ => hS, H⟩
    · have h1 := H.2 j (ready_mono hj hji)
      obtain ⟨hjun, oj, hoj, hall⟩ := mem_ready.1 hj
      have hnot : ∀ e ∈ oj.after, Region.binds md e = true → e.on ≠ i := fun e he hb heq => by
        have h1 := hall e he hb
        have h0 := (mem_ready.1 hr).1
        rw [heq] at h1
        rcases Nat.lt_or_ge i listed.size with h' | h'
        · simp [h'] at h0 h1; rw [h0] at h1; cases h1
        · simp [Array.getElem?_eq_none h'] at h1
      have h2 := OpN_putIf hoj (hfree j oj hoj hji hjun hnot) (fun cs b => hsel i oi cs b hi) (fun cs b => hsel j oj cs b hoj) hy h1
      have hfree' : ∀ k ok, ops[k]? = some ok → k ≠ i → (listed.setIfInBounds j true).getD k true = false →
          (∀ e ∈ ok.after, Region.binds md e = true → e.on ≠ i) → oi.apart ops ok = true := fun k ok hk hki hun hno => by
        refine hfree k ok hk hki ?_ hno
        by_cases hjk : j = k
        · subst hjk; exact hjun
        · rw [getD_set_ne true hjk] at hun; exact hun
      have hXj : X j = false := by
        cases hx : X j with
        | false => rfl
        | true =>
          obtain ⟨e, he, hb, heq⟩ := hX j oj hoj hx
          exact absurd heq (hnot e he hb)
      refine OpN_mono (fun a' σ' w' h3 => ⟨fun _ => h3.2.1 hXj, ih (listed.setIfInBounds j true) a' σ' w' hfree' (ready_mono hr (Ne.symm hji)) h3.1 (h3.2.1 hXj) ?_⟩) h2
      rw [Array.setIfInBounds_comm _ _ hji]
      exact h3.2.2

/-- Take number i first. -/
theorem anyN_take {i : Nat} {oi : Oper} {v : Value} {fuel : Nat} {listed : Array Bool} (hi : ops[i]? = some oi)
    (hs : Region.noSelect ops = true) (hf : Region.free md ops listed i = true) (hr : (Region.ready md ops listed).contains i = true) (hx : waitsFor md ops X i = true)
    (hy : YieldsX P ops S oi v a) (hS : S σ w) (h : AnyN J N fn md ops Q S X fuel (listed.setIfInBounds i true) (a.put oi.dst v) σ w) : AnyN J N fn md ops Q S X (fuel + 1) listed a σ w :=
  anyN_first hi (waitsFor_spec hx) (Region.noSelect_spec hs) fuel listed a σ w (Region.free_spec hi hf) (by simpa using hr) hy hS h

/-- Whichever of those that may come up comes up: behind it S is to be shown anew. -/
theorem anyN_all {rs : List Nat} {fuel : Nat} {listed : Array Bool} (hr : Region.ready md ops listed = rs) (hne : rs ≠ [])
    (h : ∀ i ∈ rs, OpN J N fn ops i (fun a' σ' w' => (X i = false → S σ' w') ∧ AnyN J N fn md ops Q S X fuel (listed.setIfInBounds i true) a' σ' w') a σ w) : AnyN J N fn md ops Q S X (fuel + 1) listed a σ w :=
  ⟨fun h0 => absurd (hr ▸ h0) hne, hr ▸ h⟩

theorem anyN_done {listed : Array Bool} (hr : Region.ready md ops listed = []) (h : Q a σ w) : ∀ fuel, AnyN J N fn md ops Q S X fuel listed a σ w
  | 0 => ⟨hr, h⟩
  | _ + 1 => ⟨fun _ => h, fun i hi => by rw [hr] at hi; cases hi⟩

/-- THE BEGINNING: a region that asks the tape. -/
theorem y_drawnN {id : Nat} (HN : ∀ ch σ' w' a todo, a.defers = [] → N ch σ' w' → J.Y σ' (G { b.at a todo with mode := .panicking ch } cs) w') (hm : P.follows .mixedOrders = true) (hk : (b.kind == CallKind.early) = false) (S : Cfg → World → Prop) (X : Nat → Bool) (Q : Act → Cfg → World → Prop)
    (h : AnyN J N b.fn .any ops Q S X ops.size (Array.replicate ops.size false) a σ w) (hQ : ∀ a σ w, Q a σ w → J.Y σ (G (b.at a k) cs) w) :
    J.Y σ (G (b.at a (.code (.region id ops true) :: k)) cs) w := by
  refine J.step σ _ _ w fun d hs => ?_
  rw [stepG_region_draw]
  simp only [goes_go]
  refine ⟨(okay_within hs (within_grown (Grown.drawn (Grown.refl _)) (by simp)) (free_none σ)).1, ?_⟩
  have e : ({ w.at d with drawn := (w.at d).drawn + 1 } : World) = w.at (d + 1) := rfl
  rw [e]
  simp only [Region.schedule, hm, Bool.true_or, if_true]
  exact J.at' _ _ _ _ (anyN_sound HN hk hQ ops.size _ _ a σ w h)


theorem y_drawnNQ {id : Nat} (HN : ∀ ch σ' w' a todo, a.defers = [] → N ch σ' w' → J.Y σ' (G { b.at a todo with mode := .panicking ch } cs) w') (S : Cfg → World → Prop) (X : Nat → Bool) (hm : P.follows .mixedOrders = true) (hk : (b.kind == CallKind.early) = false)
    (h : AnyN J N b.fn .any ops (fun a σ w => J.Y σ (G (b.at a k) cs) w) S X ops.size (Array.replicate ops.size false) a σ w) :
    J.Y σ (G (b.at a (.code (.region id ops true) :: k)) cs) w := y_drawnN HN hm hk S X _ h fun _ _ _ h => h

theorem anyN_takeW {i : Nat} {oi : Oper} {v : Value} {fuel : Nat} {listed : Array Bool} (hi : ops[i]? = some oi) (hw : Region.wanted oi (yielded ops a.tmps) = true) (hnw : Nw (execOp a.eval oi))
    (hv : ∀ σ' w', S σ' w' → ∀ (d : Nat) (K : Result Next → Prop), K (.ok (.value v) (w'.at d)) → K ((execOp a.eval oi).run P (w'.at d)))
    (hs : Region.noSelect ops = true) (hf : Region.free md ops listed i = true) (hr : (Region.ready md ops listed).contains i = true) (hx : waitsFor md ops X i = true)
    (hS : S σ w) (h : AnyN J N fn md ops Q S X fuel (listed.setIfInBounds i true) (a.put oi.dst v) σ w) : AnyN J N fn md ops Q S X (fuel + 1) listed a σ w :=
  anyN_take hi hs hf hr hx (.inl ⟨hw, hnw, fun σ' w' hS' d => hv σ' w' hS' d (· = .ok (.value v) (w'.at d)) rfl⟩) hS h

theorem anyN_takeU {i : Nat} {oi : Oper} {fuel : Nat} {listed : Array Bool} (hi : ops[i]? = some oi) (hw : Region.wanted oi (yielded ops a.tmps) = false)
    (hs : Region.noSelect ops = true) (hf : Region.free md ops listed i = true) (hr : (Region.ready md ops listed).contains i = true) (hx : waitsFor md ops X i = true)
    (hS : S σ w) (h : AnyN J N fn md ops Q S X fuel (listed.setIfInBounds i true) (a.put oi.dst undef) σ w) : AnyN J N fn md ops Q S X (fuel + 1) listed a σ w :=
  anyN_take hi hs hf hr hx (.inr ⟨hw, rfl⟩) hS h

theorem anyN_tW {i : Nat} {oi : Oper} {v : Value} {fuel : Nat} {listed : Array Bool} (hi : ops[i]? = some oi) (hw : Region.wanted oi (yielded ops a.tmps) = true) (hnw : Nw (execOp a.eval oi))
    (hv : ∀ σ' w', S σ' w' → ∀ (d : Nat) (K : Result Next → Prop), K (.ok (.value v) (w'.at d)) → K ((execOp a.eval oi).run P (w'.at d)))
    (ho : okTake md ops X listed i = true) (hS : S σ w) (h : AnyN J N fn md ops Q S X fuel (listed.setIfInBounds i true) (a.put oi.dst v) σ w) : AnyN J N fn md ops Q S X (fuel + 1) listed a σ w := by
  simp only [okTake, Bool.and_eq_true] at ho
  exact anyN_takeW hi hw hnw hv ho.1.1.1 ho.1.1.2 ho.1.2 ho.2 hS h
theorem anyN_tU {i : Nat} {oi : Oper} {fuel : Nat} {listed : Array Bool} (hi : ops[i]? = some oi) (hw : Region.wanted oi (yielded ops a.tmps) = false)
    (ho : okTake md ops X listed i = true) (hS : S σ w) (h : AnyN J N fn md ops Q S X fuel (listed.setIfInBounds i true) (a.put oi.dst undef) σ w) : AnyN J N fn md ops Q S X (fuel + 1) listed a σ w := by
  simp only [okTake, Bool.and_eq_true] at ho
  exact anyN_takeU hi hw ho.1.1.1 ho.1.1.2 ho.1.2 ho.2 hS h

theorem anyN_one {i fuel : Nat} {listed : Array Bool} (hr : Region.ready md ops listed = [i])
    (h : OpN J N fn ops i (fun a' σ' w' => (X i = false → S σ' w') ∧ AnyN J N fn md ops Q S X fuel (listed.setIfInBounds i true) a' σ' w') a σ w) : AnyN J N fn md ops Q S X (fuel + 1) listed a σ w :=
  anyN_all hr (by simp) fun j hj => by obtain rfl : j = i := by simpa using hj
                                       exact h
theorem anyN_two {i j fuel : Nat} {listed : Array Bool} (hr : Region.ready md ops listed = [i, j])
    (h1 : OpN J N fn ops i (fun a' σ' w' => (X i = false → S σ' w') ∧ AnyN J N fn md ops Q S X fuel (listed.setIfInBounds i true) a' σ' w') a σ w)
    (h2 : OpN J N fn ops j (fun a' σ' w' => (X j = false → S σ' w') ∧ AnyN J N fn md ops Q S X fuel (listed.setIfInBounds j true) a' σ' w') a σ w) : AnyN J N fn md ops Q S X (fuel + 1) listed a σ w :=
  anyN_all hr (by simp) fun x hx => by
    rcases List.mem_cons.1 hx with rfl | hx
    · exact h1
    · obtain rfl : x = j := by simpa using hx
      exact h2
theorem anyN_end {fuel : Nat} {listed : Array Bool} (hr : Region.ready md ops listed = []) (h : Q a σ w) : AnyN J N fn md ops Q S X fuel listed a σ w := anyN_done hr h fuel

section
variable {i : Nat} {o : Oper} {K : Act → Cfg → World → Prop}
/-- A call of a function named outright. -/
theorem opN_call {f : FuncId} {f' : Func} {xs : Array Operand} {ts : Array TypeId} {R : Value → Cfg → World → Prop} {args : Array Value} (hi : ops[i]? = some o) (hw : Region.wanted o (yielded ops a.tmps) = true)
    (hop : o.op = .call { callee := .value (.func f), args := xs, argTypes := ts }) (hf : P.funcs[f]? = some f') (hname : (f'.name == "runtime.NumGoroutine") = false) (hb : f'.body.isNone = false)
    (hc : CallsX J f args σ w R N) (hd : a.defers = []) (hargs : xs.map a.eval = args) (hret : ∀ v σ' w', R v σ' w' → K (a.put o.dst v) σ' w') : OpN J N fn ops i K a σ w := by
  unfold OpN
  simp only [hi, hw, if_true]
  intro d hs
  have e1 := run_call_body (w := w.at d) (a := a) hop hf hname hb
  have e2 := events_call_body (w := w.at d) (a := a) hop hf hname hb
  rw [e1]
  refine ⟨w, d, rfl, ?_, ?_⟩
  · have : listed P fn a o (w.at d) = #[] := by unfold listed; rw [e2]; exact seen_none P _
    rw [this]
    exact okay_within (at_sound hs d) (within_grown (Grown.refl _) (by simp)) (free_none σ)
  · exact ⟨hd, by rw [hargs]; exact CallsX.mono hc hret⟩

theorem opN_nw (hi : ops[i]? = some o) (hw : Region.wanted o (yielded ops a.tmps) = true) (hnw : Nw (execOp a.eval o))
    (h : ∀ d, σ.Sound w → ∀ K' : Did → World → Prop, (∀ a' w' d', K a' σ w' → K' (.act a') (w'.at d')) → didOf o a K' ((execOp a.eval o).run P (w.at d))) : OpN J N fn ops i K a σ w := by
  unfold OpN
  simp only [hi, hw, if_true]
  intro d hs
  have hok := okayQ_nw (P := P) (w := w) (fn := fn) (d := d) hs hnw
  refine didOf_mono ?_ (didOf_res (h d hs (fun D w' => ∃ a' w'' d', D = .act a' ∧ w' = w''.at d' ∧ K a' σ w'') (fun a' w' d' hY => ⟨a', w', d', rfl, rfl, hY⟩)))
  rintro D w' ⟨⟨a', w'', d', rfl, rfl, hK⟩, e⟩
  exact ⟨w'', d', rfl, by rw [e]; exact hok, hK⟩

theorem opN_wb (B : Nat → Prop) (hi : ops[i]? = some o) (hw : Region.wanted o (yielded ops a.tmps) = true) (hwb : Wb B (execOp a.eval o)) (nv : NV B w) (hf : σ.Free B)
    (h : ∀ d, σ.Sound w → ∀ K' : Did → World → Prop, (∀ a' w' d', K a' σ w' → K' (.act a') (w'.at d')) → didOf o a K' ((execOp a.eval o).run P (w.at d))) : OpN J N fn ops i K a σ w := by
  unfold OpN
  simp only [hi, hw, if_true]
  intro d hs
  have hok := okayQ_wb (P := P) (fn := fn) (d := d) hs hwb nv hf
  refine didOf_mono ?_ (didOf_res (h d hs (fun D w' => ∃ a' w'' d', D = .act a' ∧ w' = w''.at d' ∧ K a' σ w'') (fun a' w' d' hY => ⟨a', w', d', rfl, rfl, hY⟩)))
  rintro D w' ⟨⟨a', w'', d', rfl, rfl, hK⟩, e⟩
  exact ⟨w'', d', rfl, by rw [e]; exact hok, hK⟩
theorem opN_store {t : TypeId} {x y : Operand} {ad : Addr} {u : Value} (hi : ops[i]? = some o) (hw : Region.wanted o (yielded ops a.tmps) = true) (hop : o.op = .store t x y)
    (hx : a.eval x = .pointer (some ad)) (hc : w.cell? ad = some u) (hf : σ.Free (· = ad.block))
    (h : ∀ d, σ.Sound w → ∀ K' : Did → World → Prop, (∀ a' w' d', K a' σ w' → K' (.act a') (w'.at d')) → didOf o a K' ((execOp a.eval o).run P (w.at d))) : OpN J N fn ops i K a σ w := by
  refine opN_wb (· = ad.block) hi hw ?_ (nv_cell hc) hf h
  unfold execOp
  simp only [hop, hx]
  exact Wb_bind (wb_store t ad _ rfl) fun _ => trivial
end



theorem anyN_three {i j k fuel : Nat} {listed : Array Bool} (hr : Region.ready md ops listed = [i, j, k])
    (h1 : OpN J N fn ops i (fun a' σ' w' => (X i = false → S σ' w') ∧ AnyN J N fn md ops Q S X fuel (listed.setIfInBounds i true) a' σ' w') a σ w)
    (h2 : OpN J N fn ops j (fun a' σ' w' => (X j = false → S σ' w') ∧ AnyN J N fn md ops Q S X fuel (listed.setIfInBounds j true) a' σ' w') a σ w)
    (h3 : OpN J N fn ops k (fun a' σ' w' => (X k = false → S σ' w') ∧ AnyN J N fn md ops Q S X fuel (listed.setIfInBounds k true) a' σ' w') a σ w) : AnyN J N fn md ops Q S X (fuel + 1) listed a σ w :=
  anyN_all hr (by simp) fun x hx => by
    rcases List.mem_cons.1 hx with rfl | hx
    · exact h1
    · rcases List.mem_cons.1 hx with rfl | hx
      · exact h2
      · obtain rfl : x = k := by simpa using hx
        exact h3

end
end Go.TX
