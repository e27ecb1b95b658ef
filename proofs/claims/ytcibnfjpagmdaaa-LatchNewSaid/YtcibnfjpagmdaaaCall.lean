/- Calls, loops, cuts, and regions that draw their order, under a judgement that is kept backward. -/
import Derived.Test.YtcibnfjpagmdaaaWp
import Derived.Conc.CompanyDraw
namespace Go.TX
open Go.Conc

section
variable {P : Program} {J : Judge P} {σ : Cfg} {w : World} {b : Frame} {a : Act} {k : List Item} {cs : List Frame}

/-- A CALL: R: what comes of it where it returns; N: where it panics. -/
def CallsX (J : Judge P) (f : FuncId) (args : Array Value) (σ : Cfg) (w : World) (R : Value → Cfg → World → Prop) (N : List PanicEntry → Cfg → World → Prop := fun _ _ _ => False) : Prop :=
  ∀ (c : Frame) (cs : List Frame), (∀ v σ' w', R v σ' w' → J.Y σ' (G (c.finish v) cs) w') → (∀ ch σ' w', N ch σ' w' → J.Y σ' (G (c.raise ch) cs) w') → J.Y σ (G (Frame.enter P f args .normal) (c :: cs)) w

theorem CallsX.mono {f : FuncId} {args : Array Value} {R R' : Value → Cfg → World → Prop} {N : List PanicEntry → Cfg → World → Prop} (h : CallsX J f args σ w R N) (hr : ∀ v σ' w', R v σ' w' → R' v σ' w') : CallsX J f args σ w R' N :=
  fun c cs H HN => h c cs (fun v σ' w' r => H v σ' w' (hr _ _ _ r)) HN

/-- The entry of a function with a body. -/
theorem callsX_body {f : FuncId} {fn : Func} {c : Code} {args : Array Value} {R : Value → Cfg → World → Prop} {N : List PanicEntry → Cfg → World → Prop} (hf : P.funcs[f]? = some fn) (hb : fn.body = some c)
    (h : ∀ (d : Frame) (cs : List Frame), (∀ v σ' w', R v σ' w' → J.Y σ' (G (d.finish v) cs) w') → (∀ ch σ' w', N ch σ' w' → J.Y σ' (G (d.raise ch) cs) w') →
      J.Y σ (G ((base f).at { tmps := args ++ Array.replicate (fn.ntmps - args.size) undef, defers := [] } [.code c]) (d :: cs)) w) : CallsX J f args σ w R N := by
  intro d cs H HN
  rw [enter_at args hf hb]
  exact h d cs H HN

theorem y_leave {fn : Func} {todo : List Item} {c : Frame} {v : Value} (hn : b.kind = .normal) (hd : a.defers = []) (hf : P.funcs[b.fn]? = some fn) (hr : ResultsC P fn a.tmps v) (h : J.Y σ (G (c.finish v) cs) w) :
    J.Y σ (G { b.at a todo with mode := .returning } (c :: cs)) w :=
  J.silent (fun w => stepG_leave hn hd hf (hr w).1 (hr w).2) h

theorem stepG_leave_panic {main : Bool} {fn : Func} {todo : List Item} {c : Frame} {ch : List PanicEntry} (hn : b.kind = .normal) (hd : a.defers = []) (hf : P.funcs[b.fn]? = some fn) :
    stepG P main (G { b.at a todo with mode := .panicking ch } (c :: cs)) w = .go (G (c.raise ch) cs) w := by
  simp [G, stepG, unwind, Frame.at, Frame.catches, hn, hd, hf]

theorem y_leave_panic {fn : Func} {todo : List Item} {c : Frame} {ch : List PanicEntry} (hn : b.kind = .normal) (hd : a.defers = []) (hf : P.funcs[b.fn]? = some fn) (h : J.Y σ (G (c.raise ch) cs) w) :
    J.Y σ (G { b.at a todo with mode := .panicking ch } (c :: cs)) w :=
  J.silent (fun _ => stepG_leave_panic hn hd hf) h

/-- A call of a function named outright, by its contract. -/
theorem y_call {ops : Array Oper} {i : Nat} {rest : List Nat} {o : Oper} {f : FuncId} {fn : Func} {xs : Array Operand} {ts : Array TypeId} {R : Value → Cfg → World → Prop} {N : List PanicEntry → Cfg → World → Prop}
    (ho : ops[i]? = some o) (hw : Region.wanted o (yielded ops a.tmps) = true) (hk : (b.kind == CallKind.early) = false) (hop : o.op = .call { callee := .value (.func f), args := xs, argTypes := ts })
    (hf : P.funcs[f]? = some fn) (hname : (fn.name == "runtime.NumGoroutine") = false) (hb : fn.body.isNone = false) (hc : CallsX J f (xs.map a.eval) σ w R N)
    (hret : ∀ v σ' w', R v σ' w' → J.Y σ' (G (b.at (a.put o.dst v) (.inRegion ops rest :: k)) cs) w')
    (hpan : ∀ ch σ' w', N ch σ' w' → J.Y σ' (G { b.at a (.inRegion ops (i :: rest) :: k) with mode := .panicking ch } cs) w') :
    J.Y σ (G (b.at a (.inRegion ops (i :: rest) :: k)) cs) w := by
  have hk' : b.kind ≠ .early := fun e => by rw [e] at hk; cases hk
  have hfin : ∀ v, (b.at a (.inRegion ops (i :: rest) :: k)).finish v = b.at (a.put o.dst v) (.inRegion ops rest :: k) := by
    intro v; rw [Frame.finish_at, ho]; rfl
  refine J.silent (g' := G (Frame.enter P f (xs.map a.eval) .normal) (b.at a (.inRegion ops (i :: rest) :: k) :: cs)) (fun w => ?_) (hc _ cs (fun v σ' w' r => ?_) fun ch σ' w' r => ?_)
  · rw [stepG_enter ho hw hk' (run_call_body hop hf hname hb)]
    have : listed P b.fn a o w = #[] := by unfold listed; rw [events_call_body hop hf hname hb]; exact seen_none P _
    rw [this]
  · rw [hfin]; exact hret v σ' w' r
  · exact hpan ch σ' w' r

/-- A LOOP: an invariant with a measure. -/
theorem y_loopI {c : Code} (I : Nat → Act → Cfg → World → Prop) (n : Nat) (h0 : I n a σ w)
    (round : ∀ n, (∀ m a' σ' w', m < n → I m a' σ' w' → J.Y σ' (G (b.at a' (.inLoop c :: k)) cs) w') → ∀ a σ w, I n a σ w → J.Y σ (G (b.at a (.code c :: .inLoop c :: k)) cs) w) :
    J.Y σ (G (b.at a (.code (.loop c) :: k)) cs) w := by
  have key : ∀ n a σ w, I n a σ w → J.Y σ (G (b.at a (.code c :: .inLoop c :: k)) cs) w := by
    intro n
    induction n using Nat.strongRecOn with
    | _ n ih => exact fun a σ w h => round n (fun m a' σ' w' hm h' => y_inLoop (ih m hm a' σ' w' h')) a σ w h
  exact y_loop (key n a σ w h0)

/-- A CUT: what holds between two pieces is said once. -/
theorem y_cut (M : Act → Cfg → World → Prop) {x : Item} (hx : ∀ kk, (∀ a' σ' w', M a' σ' w' → J.Y σ' (G (b.at a' kk) cs) w') → J.Y σ (G (b.at a (x :: kk)) cs) w)
    (hy : ∀ a' σ' w', M a' σ' w' → J.Y σ' (G (b.at a' k) cs) w') : J.Y σ (G (b.at a (x :: k)) cs) w := hx k hy

/-- A call of a function value. -/
theorem run_call_value {o : Oper} {f : FuncId} {fn : Func} {x : Operand} {xs : Array Operand} {ts : Array TypeId} {first cap : Array Value} (hop : o.op = .call { callee := .value x, args := xs, argTypes := ts }) (hx : a.eval x = .func (.func f) first cap)
    (hf : P.funcs[f]? = some fn) (hname : (fn.name == "runtime.NumGoroutine") = false) (hb : fn.body.isNone = false) : (execOp a.eval o).run P w = .ok (.enter f (first ++ xs.map a.eval ++ cap)) w := by
  have h1 : ¬ fn.name = "runtime.NumGoroutine" := by simpa using hname
  have h2 : ¬ fn.body = none := by cases hx : fn.body <;> simp_all
  unfold execOp
  simp [hop, hx, resolve, Deferred.ofValue, invoke, callFunc, hf, h1, h2]
theorem events_call_value {o : Oper} {f : FuncId} {fn : Func} {x : Operand} {xs : Array Operand} {ts : Array TypeId} {first cap : Array Value} (hop : o.op = .call { callee := .value x, args := xs, argTypes := ts }) (hx : a.eval x = .func (.func f) first cap)
    (hf : P.funcs[f]? = some fn) (hname : (fn.name == "runtime.NumGoroutine") = false) (hb : fn.body.isNone = false) (es : Array Event) : (execOp a.eval o).events P w es = es := by
  have h1 : ¬ fn.name = "runtime.NumGoroutine" := by simpa using hname
  have h2 : ¬ fn.body = none := by cases hx : fn.body <;> simp_all
  unfold execOp
  simp [hop, hx, resolve, Deferred.ofValue, invoke, callFunc, hf, h1, h2]
theorem y_callV {ops : Array Oper} {i : Nat} {rest : List Nat} {o : Oper} {f : FuncId} {fn : Func} {x : Operand} {xs : Array Operand} {ts : Array TypeId} {first cap : Array Value} {R : Value → Cfg → World → Prop} {N : List PanicEntry → Cfg → World → Prop}
    (ho : ops[i]? = some o) (hw : Region.wanted o (yielded ops a.tmps) = true) (hk : (b.kind == CallKind.early) = false) (hop : o.op = .call { callee := .value x, args := xs, argTypes := ts }) (hx : a.eval x = .func (.func f) first cap)
    (hf : P.funcs[f]? = some fn) (hname : (fn.name == "runtime.NumGoroutine") = false) (hb : fn.body.isNone = false) (hc : CallsX J f (first ++ xs.map a.eval ++ cap) σ w R N)
    (hret : ∀ v σ' w', R v σ' w' → J.Y σ' (G (b.at (a.put o.dst v) (.inRegion ops rest :: k)) cs) w')
    (hpan : ∀ ch σ' w', N ch σ' w' → J.Y σ' (G { b.at a (.inRegion ops (i :: rest) :: k) with mode := .panicking ch } cs) w') :
    J.Y σ (G (b.at a (.inRegion ops (i :: rest) :: k)) cs) w := by
  have hk' : b.kind ≠ .early := fun e => by rw [e] at hk; cases hk
  have hfin : ∀ v, (b.at a (.inRegion ops (i :: rest) :: k)).finish v = b.at (a.put o.dst v) (.inRegion ops rest :: k) := by
    intro v; rw [Frame.finish_at, ho]; rfl
  refine J.silent (g' := G (Frame.enter P f (first ++ xs.map a.eval ++ cap) .normal) (b.at a (.inRegion ops (i :: rest) :: k) :: cs)) (fun w => ?_) (hc _ cs (fun v σ' w' r => ?_) fun ch σ' w' r => ?_)
  · rw [stepG_enter ho hw hk' (run_call_value hop hx hf hname hb)]
    have : listed P b.fn a o w = #[] := by unfold listed; rw [events_call_value hop hx hf hname hb]; exact seen_none P _
    rw [this]
  · rw [hfin]; exact hret v σ' w' r
  · exact hpan ch σ' w' r

/-! ### a region that draws its order -/
variable {fn : FuncId} {ops : Array Oper} {md : Region.Mode} {S : Cfg → World → Prop} {X : Nat → Bool} {Q : Act → Cfg → World → Prop}

/-- Operation i comes up; K is asked of the state in which it ends. -/
def OpX (J : Judge P) (fn : FuncId) (ops : Array Oper) (i : Nat) (K : Act → Cfg → World → Prop) (a : Act) (σ : Cfg) (w : World) : Prop :=
  match ops[i]? with
  | none => False
  | some o => if Region.wanted o (yielded ops a.tmps) then ∀ d, σ.Sound w → didOf o a (fun D w' => ∃ w'' d', w' = w''.at d' ∧ OkayQ σ (w.at d) w' (listed P fn a o (w.at d)) ∧
      match D with
      | .act a' => K a' σ w''
      | .call f args => CallsX J f args σ w'' (fun v σ' w₃ => K (a.put o.dst v) σ' w₃)
      | .panic _ => False) ((execOp a.eval o).run P (w.at d)) else K (a.put o.dst undef) σ w

theorem OpX_mono {i : Nat} {K K' : Act → Cfg → World → Prop} (h : ∀ a σ w, K a σ w → K' a σ w) (hh : OpX J fn ops i K a σ w) : OpX J fn ops i K' a σ w := by
  unfold OpX at *
  split
  · simp_all
  · rename_i o ho
    simp only [ho] at hh
    split
    · rename_i hw
      simp only [hw, if_true] at hh
      intro d hs
      refine didOf_mono (fun D w' x => ?_) (hh d hs)
      obtain ⟨w'', d', e, hok, hD⟩ := x
      refine ⟨w'', d', e, hok, ?_⟩
      cases D with
      | act a' => exact h _ _ _ hD
      | call f args => exact CallsX.mono hD fun v σ' w₃ => h _ _ _
      | panic v => exact hD
    · rename_i hw; simp only [hw] at hh; exact h _ _ _ hh

theorem y_opX {i : Nat} {rest : List Nat} (hk : (b.kind == CallKind.early) = false) (h : OpX J b.fn ops i (fun a' σ' w' => J.Y σ' (G (b.at a' (.inRegion ops rest :: k)) cs) w') a σ w) : J.Y σ (G (b.at a (.inRegion ops (i :: rest) :: k)) cs) w := by
  unfold OpX at h
  split at h
  · exact h.elim
  · rename_i o ho
    split at h
    · rename_i hw
      refine y_op ho hw hk fun d hs K hK => didOf_mono (fun D w' x => ?_) (h d hs)
      obtain ⟨w'', d', rfl, hok, hD⟩ := x
      refine hK D w'' d' hok ?_
      have hfin : ∀ v, (b.at a (.inRegion ops (i :: rest) :: k)).finish v = b.at (a.put o.dst v) (.inRegion ops rest :: k) := by
        intro v; rw [Frame.finish_at, ho]; rfl
      cases D with
      | act a' => exact hD
      | call f args => exact hD _ cs (fun v σ' w₃ r => by rw [hfin]; exact r) fun _ _ _ x => x.elim
      | panic v => exact hD.elim
    · rename_i hw; exact y_unwanted ho (by simpa using hw) h

/-- In state a, in every world that meets S, operation o leaves v in its temporary and does nothing else. -/
def YieldsX (P : Program) (ops : Array Oper) (S : Cfg → World → Prop) (o : Oper) (v : Value) (a : Act) : Prop :=
  (Region.wanted o (yielded ops a.tmps) = true ∧ Nw (execOp a.eval o) ∧ ∀ σ w, S σ w → ∀ d, (execOp a.eval o).run P (w.at d) = .ok (.value v) (w.at d)) ∨
  (Region.wanted o (yielded ops a.tmps) = false ∧ v = undef)

theorem YieldsX.of_same {o : Oper} {v : Value} {a a' : Act} (hy : YieldsX P ops S o v a) (he : execOp a'.eval o = execOp a.eval o)
    (hw : Region.wanted o (yielded ops a'.tmps) = Region.wanted o (yielded ops a.tmps)) : YieldsX P ops S o v a' := by
  unfold YieldsX at *
  rw [he, hw]
  exact hy

/-- Whatever order is picked from here on, and S holds behind every operation. -/
def AnyX (J : Judge P) (fn : FuncId) (md : Region.Mode) (ops : Array Oper) (Q : Act → Cfg → World → Prop) (S : Cfg → World → Prop) (X : Nat → Bool) : Nat → Array Bool → Act → Cfg → World → Prop
  | 0, listed, a, σ, w => Region.ready md ops listed = [] ∧ Q a σ w
  | fuel + 1, listed, a, σ, w =>
    (Region.ready md ops listed = [] → Q a σ w) ∧
    ∀ i ∈ Region.ready md ops listed, OpX J fn ops i (fun a' σ' w' => (X i = false → S σ' w') ∧ AnyX J fn md ops Q S X fuel (listed.setIfInBounds i true) a' σ' w') a σ w

theorem anyX_sound (hk : (b.kind == CallKind.early) = false) (hQ : ∀ a σ w, Q a σ w → J.Y σ (G (b.at a k) cs) w) : ∀ (fuel t : Nat) (listed : Array Bool) (a : Act) (σ : Cfg) (w : World), AnyX J b.fn md ops Q S X fuel listed a σ w →
    J.Y σ (G (b.at a (.inRegion ops (Region.linearise.go md ops fuel t listed []) :: k)) cs) w := by
  intro fuel
  induction fuel with
  | zero => intro t listed a σ w h; simpa [Region.linearise.go] using y_regionEnd (hQ _ _ _ h.2)
  | succ fuel ih =>
    intro t listed a σ w h
    obtain ⟨h₀, h₁⟩ := h
    simp only [Region.linearise.go]
    change J.Y σ (G (b.at a (.inRegion ops (match (Region.ready md ops listed)[t % (Region.ready md ops listed).length]? with
      | some i => Region.linearise.go md ops fuel (t / (Region.ready md ops listed).length) (listed.setIfInBounds i true) [i]
      | none => [].reverse) :: k)) cs) w
    cases hi : (Region.ready md ops listed)[t % (Region.ready md ops listed).length]? with
    | none =>
      have hnil : Region.ready md ops listed = [] := by
        cases hr : Region.ready md ops listed with
        | nil => rfl
        | cons x xs =>
          rw [hr] at hi
          have hlt : t % (x :: xs).length < (x :: xs).length := Nat.mod_lt _ (by simp)
          simp at hi
          simp at hlt
          omega
      simpa using y_regionEnd (ops := ops) (hQ _ _ _ (h₀ hnil))
    | some i =>
      simp only []
      rw [linearise_go_acc, List.reverse_singleton, List.singleton_append]
      exact y_opX hk (OpX_mono (fun a' σ' w' x => ih _ _ a' σ' w' x.2) (h₁ i (List.mem_of_getElem? hi)))

theorem YieldsX.opX {i : Nat} {o : Oper} {v : Value} (hi : ops[i]? = some o) (hy : YieldsX P ops S o v a) {K : Act → Cfg → World → Prop} (hS : S σ w) (h : K (a.put o.dst v) σ w) : OpX J fn ops i K a σ w := by
  unfold OpX
  simp only [hi]
  rcases hy with ⟨hw, hnw, hv⟩ | ⟨hw, rfl⟩
  · simp only [hw, if_true]
    intro d hs
    have hok := okayQ_nw (P := P) (w := w) (fn := fn) (d := d) hs hnw
    rw [hv σ w hS d] at hok ⊢
    exact ⟨w, d, rfl, hok, h⟩
  · simp only [hw, Bool.false_eq_true, if_false]; exact h

/-- One operation oj, apart from oi: whether oi's value is already in its temporary makes no difference to it, and it makes none to oi. -/
theorem OpX_putIf {j : Nat} {oi oj : Oper} {v : Value} (hj : ops[j]? = some oj) (hap : oi.apart ops oj = true)
    (hsi : ∀ cs b, oi.op ≠ .select cs b) (hsj : ∀ cs b, oj.op ≠ .select cs b) {K : Act → Cfg → World → Prop}
    (hy : YieldsX P ops S oi v a) (h : OpX J fn ops j K (a.put oi.dst v) σ w) :
    OpX J fn ops j (fun a' σ' w' => YieldsX P ops S oi v a' ∧ K (a'.put oi.dst v) σ' w') a σ w := by
  obtain ⟨h1, h2, h3⟩ := Oper.apart_spec hap
  have keep : ∀ (a : Act), YieldsX P ops S oi v a → ∀ u, YieldsX P ops S oi v (a.put oj.dst u) := fun a hy u =>
    hy.of_same (execOp_put oi hsi a oj.dst u h3) (wanted_put oi a oj.dst u h3)
  unfold OpX at *
  simp only [hj] at *
  rw [wanted_put oj a oi.dst v h1] at h
  split
  · rename_i hw
    simp only [hw, if_true] at h
    intro d hs
    have h := h d hs
    unfold listed at *
    rw [execOp_put oj hsj a oi.dst v h1] at h
    generalize (execOp a.eval oj).run P (w.at d) = r at *
    cases r with
    | ok n w' =>
      cases n <;> simp only [didOf] at h ⊢
      case value u =>
        obtain ⟨w'', d', e, hok, hK⟩ := h
        exact ⟨w'', d', e, hok, keep a hy u, by rw [← Act.put_comm a v u h2]; exact hK⟩
      case skip =>
        obtain ⟨w'', d', e, hok, hK⟩ := h
        exact ⟨w'', d', e, hok, keep a hy _, by rw [← Act.put_comm a v undef h2]; exact hK⟩
      case defer dd =>
        obtain ⟨w'', d', e, hok, hK⟩ := h
        refine ⟨w'', d', e, hok, ?_, ?_⟩
        · exact (keep a hy undef).of_same (by cases oj.dst <;> rfl) (by cases oj.dst <;> rfl)
        · rw [← Act.put_comm _ v undef h2, ← Act.put_defers]; exact hK
      case enter f args =>
        obtain ⟨w'', d', e, hok, hK⟩ := h
        exact ⟨w'', d', e, hok, CallsX.mono hK fun u σ' w₃ x => ⟨keep a hy u, by rw [← Act.put_comm a v u h2]; exact x⟩⟩
    | halt x w' =>
      cases x <;> simp only [didOf] at h
      obtain ⟨_, _, _, _, h⟩ := h
      exact h.elim
  · rename_i hw
    simp only [hw] at h
    exact ⟨keep a hy _, by rw [← Act.put_comm a v undef h2]; exact h⟩

/-- Whatever need not keep S waits for number i by a tie of its own. -/
def waitsFor (md : Region.Mode) (ops : Array Oper) (X : Nat → Bool) (i : Nat) : Bool := (List.range ops.size).all fun j => !X j || (match ops[j]? with | some o => o.after.any (fun e => Region.binds md e && e.on == i) | none => true)
theorem waitsFor_spec {i : Nat} (h : waitsFor md ops X i = true) (j : Nat) (oj : Oper) (hj : ops[j]? = some oj) (hx : X j = true) : ∃ e ∈ oj.after, Region.binds md e = true ∧ e.on = i := by
  unfold waitsFor at h
  rw [List.all_eq_true] at h
  have h1 := h j (List.mem_range.2 (Array.getElem?_eq_some_iff.1 hj).1)
  simp only [hx, Bool.not_true, Bool.false_or, hj, Array.any_eq_true, Bool.and_eq_true, beq_iff_eq] at h1
  obtain ⟨k, hk, h2, h3⟩ := h1
  exact ⟨_, Array.getElem_mem hk, h2, h3⟩

theorem anyX_first {i : Nat} {oi : Oper} {v : Value} (hi : ops[i]? = some oi) (hX : ∀ (j : Nat) (oj : Oper), ops[j]? = some oj → X j = true → ∃ e ∈ oj.after, Region.binds md e = true ∧ e.on = i) (hsel : ∀ (j : Nat) (o : Oper) cs b, ops[j]? = some o → o.op ≠ .select cs b) :
    ∀ (fuel : Nat) (listed : Array Bool) (a : Act) (σ : Cfg) (w : World),
      (∀ j oj, ops[j]? = some oj → j ≠ i → listed.getD j true = false → (∀ e ∈ oj.after, Region.binds md e = true → e.on ≠ i) → oi.apart ops oj = true) →
      i ∈ Region.ready md ops listed → YieldsX P ops S oi v a → S σ w →
      AnyX J fn md ops Q S X fuel (listed.setIfInBounds i true) (a.put oi.dst v) σ w → AnyX J fn md ops Q S X (fuel + 1) listed a σ w := by
  intro fuel
  induction fuel with
  | zero =>
    intro listed a σ w _ hr hy hS H
    refine ⟨fun h => (by rw [h] at hr; cases hr), fun j hj => ?_⟩
    by_cases hji : j = i
    · subst hji; exact hy.opX hi hS ⟨fun _ => hS, H⟩
    · have := ready_mono hj hji
      rw [H.1] at this
      cases this
  | succ fuel ih =>
    intro listed a σ w hfree hr hy hS H
    refine ⟨fun h => (by rw [h] at hr; cases hr), fun j hj => ?_⟩
    by_cases hji : j = i
    · subst hji; exact hy.opX hi hS ⟨fun _ => hS, H⟩
    · have h1 := H.2 j (ready_mono hj hji)
      obtain ⟨hjun, oj, hoj, hall⟩ := mem_ready.1 hj
      have hnot : ∀ e ∈ oj.after, Region.binds md e = true → e.on ≠ i := fun e he hb heq => by
        have h1 := hall e he hb
        have h0 := (mem_ready.1 hr).1
        rw [heq] at h1
        rcases Nat.lt_or_ge i listed.size with h' | h'
        · simp [h'] at h0 h1; rw [h0] at h1; cases h1
        · simp [Array.getElem?_eq_none h'] at h1
      have h2 := OpX_putIf hoj (hfree j oj hoj hji hjun hnot) (fun cs b => hsel i oi cs b hi) (fun cs b => hsel j oj cs b hoj) hy h1
      have hfree' : ∀ k ok, ops[k]? = some ok → k ≠ i → (listed.setIfInBounds j true).getD k true = false →
          (∀ e ∈ ok.after, Region.binds md e = true → e.on ≠ i) → oi.apart ops ok = true := fun k ok hk hki hun hno => by
        refine hfree k ok hk hki ?_ hno
        by_cases hjk : j = k
        · subst hjk; exact hjun
        · rw [getD_set_ne true hjk] at hun; exact hun
      have hXj : X j = false := by
        cases hx : X j with
        | false => rfl
        | true =>
          obtain ⟨e, he, hb, heq⟩ := hX j oj hoj hx
          exact absurd heq (hnot e he hb)
      refine OpX_mono (fun a' σ' w' h3 => ⟨fun _ => h3.2.1 hXj, ih (listed.setIfInBounds j true) a' σ' w' hfree' (ready_mono hr (Ne.symm hji)) h3.1 (h3.2.1 hXj) ?_⟩) h2
      rw [Array.setIfInBounds_comm _ _ hji]
      exact h3.2.2

/-- Take number i first. -/
theorem anyX_take {i : Nat} {oi : Oper} {v : Value} {fuel : Nat} {listed : Array Bool} (hi : ops[i]? = some oi)
    (hs : Region.noSelect ops = true) (hf : Region.free md ops listed i = true) (hr : (Region.ready md ops listed).contains i = true) (hx : waitsFor md ops X i = true)
    (hy : YieldsX P ops S oi v a) (hS : S σ w) (h : AnyX J fn md ops Q S X fuel (listed.setIfInBounds i true) (a.put oi.dst v) σ w) : AnyX J fn md ops Q S X (fuel + 1) listed a σ w :=
  anyX_first hi (waitsFor_spec hx) (Region.noSelect_spec hs) fuel listed a σ w (Region.free_spec hi hf) (by simpa using hr) hy hS h

/-- Whichever of those that may come up comes up: behind it S is to be shown anew. -/
theorem anyX_all {rs : List Nat} {fuel : Nat} {listed : Array Bool} (hr : Region.ready md ops listed = rs) (hne : rs ≠ [])
    (h : ∀ i ∈ rs, OpX J fn ops i (fun a' σ' w' => (X i = false → S σ' w') ∧ AnyX J fn md ops Q S X fuel (listed.setIfInBounds i true) a' σ' w') a σ w) : AnyX J fn md ops Q S X (fuel + 1) listed a σ w :=
  ⟨fun h0 => absurd (hr ▸ h0) hne, hr ▸ h⟩

theorem anyX_done {listed : Array Bool} (hr : Region.ready md ops listed = []) (h : Q a σ w) : ∀ fuel, AnyX J fn md ops Q S X fuel listed a σ w
  | 0 => ⟨hr, h⟩
  | _ + 1 => ⟨fun _ => h, fun i hi => by rw [hr] at hi; cases hi⟩

/-- THE BEGINNING: a region that asks the tape. -/
theorem y_drawn {id : Nat} (hm : P.follows .mixedOrders = true) (hk : (b.kind == CallKind.early) = false) (S : Cfg → World → Prop) (X : Nat → Bool) (Q : Act → Cfg → World → Prop)
    (h : AnyX J b.fn .any ops Q S X ops.size (Array.replicate ops.size false) a σ w) (hQ : ∀ a σ w, Q a σ w → J.Y σ (G (b.at a k) cs) w) :
    J.Y σ (G (b.at a (.code (.region id ops true) :: k)) cs) w := by
  refine J.step σ _ _ w fun d hs => ?_
  rw [stepG_region_draw]
  simp only [goes_go]
  refine ⟨(okay_within hs (within_grown (Grown.drawn (Grown.refl _)) (by simp)) (free_none σ)).1, ?_⟩
  have e : ({ w.at d with drawn := (w.at d).drawn + 1 } : World) = w.at (d + 1) := rfl
  rw [e]
  simp only [Region.schedule, hm, Bool.true_or, if_true]
  exact J.at' _ _ _ _ (anyX_sound hk hQ ops.size _ _ a σ w h)
end

/-! ### which operations write nothing -/
def nwOp : Op → Bool
  | .move _ | .assign _ | .pick .. | .alloc _ | .box .. | .build .. | .buildSlice .. | .load .. | .unOp .. | .makeFunc .. | .makeMap .. | .makeChan .. | .fieldAddr .. | .field .. | .indexAddr .. | .extract .. => true
  | .binOp .eql .. | .binOp .neq .. => true
  | .call { callee := .builtin .len, .. } => true
  | _ => false

theorem nx_of {ρ : Operand → Value} {o : Oper} (h : nwOp o.op = true) : Nw (execOp ρ o) := by
  unfold execOp
  generalize o.op = op at h
  have v : ∀ {s : Sem Value}, Nw s → Nw (do pure (Next.value (← s)) : Sem Next) := fun h => Nw_bind h fun _ => trivial
  cases op <;> first | (simp only [nwOp, Bool.false_eq_true] at h; done) | skip
  case move => trivial
  case assign => trivial
  case pick => exact Nw_bind (nw_asBool _) fun _ => trivial
  case alloc => exact v (nw_alloc _ _ _ (fun _ => by simp))
  case box => exact v (nw_box _ _)
  case build => exact v (nw_build _ _)
  case buildSlice => exact v (nw_buildSlice _ _ _)
  case load => exact v (nw_loadAt _ _)
  case binOp op _ _ _ _ =>
    cases op <;> first | (simp only [nwOp, Bool.false_eq_true] at h; done) | skip
    · exact v (Nw_bind (nw_eqGuard _ _ _ _ _ _) fun _ => nw_binOp _ _ _ _ (.inl rfl))
    · exact v (Nw_bind (nw_eqGuard _ _ _ _ _ _) fun _ => nw_binOp _ _ _ _ (.inr (.inl rfl)))
  case unOp => exact v (nw_unary _ _)
  case makeFunc => exact v (Nw_pure _)
  case makeMap => exact v (nw_makeMap _ _)
  case makeChan => exact v (nw_makeChan _ _)
  case fieldAddr => exact v (nw_fieldAt _ _ _)
  case field => exact v (nw_field _ _ _)
  case indexAddr => exact v (nw_indexAt _ _ _)
  case extract => exact v (nw_extract _ _)
  case call c =>
    obtain ⟨callee, args, ts⟩ := c
    cases callee with
    | builtin b =>
      cases b <;> first | (simp only [nwOp, Bool.false_eq_true] at h; done) | skip
      exact v (nw_len ts o.type (args.map ρ))
    | value _ => simp only [nwOp, Bool.false_eq_true] at h
    | invoke _ _ => simp only [nwOp, Bool.false_eq_true] at h
theorem nx_nil {ρ : Operand → Value} {o : Oper} {x : Operand} {p : Option Addr} (h : o.op = .nilCheck x) (hx : ρ x = .pointer p) : Nw (execOp ρ o) := by
  unfold execOp
  simp only [h, hx]
  cases p with
  | none => exact nw_runtimePanic _
  | some _ => trivial
theorem nx_int {ρ : Operand → Value} {o : Oper} {op : BinOp} {x y : Operand} {t t' : TypeId} {k k' : IntKind} {n n' : Int} (h : o.op = .binOp op t x y t') (hx : ρ x = .int k n) (hy : ρ y = .int k' n') : Nw (execOp ρ o) := by
  unfold execOp
  simp only [h, hx, hy]
  exact Nw_bind (Nw_bind (nw_eqGuard _ _ _ _ _ _) fun _ => nw_binOp _ _ _ _ (.inr (.inr ⟨⟨_, _, rfl⟩, _, _, rfl⟩))) fun _ => trivial
/-- Operations that write nothing, by a check. -/
def nxB (ρ : Operand → Value) (o : Oper) : Bool := nwOp o.op || match o.op with
  | .nilCheck x => match ρ x with | .pointer _ => true | _ => false
  | .binOp _ _ x y _ => match ρ x with | .int _ _ => (match ρ y with | .int _ _ => true | _ => false) | _ => false
  | _ => false
theorem nx {ρ : Operand → Value} {o : Oper} (h : nxB ρ o = true) : Nw (execOp ρ o) := by
  unfold nxB at h
  rcases (Bool.or_eq_true _ _).mp h with h | h
  · exact nx_of h
  · split at h
    · split at h
      · exact nx_nil ‹_› ‹_›
      · cases h
    · split at h
      · split at h
        · exact nx_int ‹_› ‹_› ‹_›
        · cases h
      · cases h
    · cases h
end Go.TX
