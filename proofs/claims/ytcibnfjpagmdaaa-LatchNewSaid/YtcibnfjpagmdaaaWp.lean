/- The walk of code under a judgement that is kept backward by a goroutine's own steps: the token's judgement 'X', or the lone machine's. -/
import Derived.Test.YtcibnfjpagmdaaaNw
import Derived.Conc.TokenWords
namespace Go.TX
open Go.Conc

attribute [go_sem] setCell_at' alloc_at' at_at'
@[go_sem] theorem drew_at (w : World) (d : Nat) : (w.at d).drew = w.at (d + 1) := rfl

/-- Memory is turned in the blocks B alone; no write is listed elsewhere; no word of deafness. -/
structure Within (B : Nat → Prop) (w w' : World) (es : Array Event) : Prop where
  size : w.heap.size ≤ w'.heap.size
  old : ∀ b, b < w.heap.size → ¬ B b → w'.heap[b]? = w.heap[b]?
  wr : ∀ e ∈ es, ∀ t, (MemAct.ofEvent e).touch? = some t → t.write = true → ∀ a, t.loc = .cell a → B a.block ∨ w.heap.size ≤ a.block
  still : ∀ e ∈ es, e.loc ≠ .mark .disable ∧ e.loc ≠ .mark .enable
  io : w'.os = w.os ∧ w'.output = w.output

/-- No seat leans on a block of B. -/
def Cfg.Free (σ : Cfg) (B : Nat → Prop) : Prop := ∀ i s, σ.seat i = some s → ¬ B s.c ∧ ∀ p ∈ s.still, ¬ B p.1.block

/-- A step's guarantee, with no word of deafness. -/
def OkayQ (σ : Cfg) (w w' : World) (es : Array Event) : Prop := Okay σ w w' es ∧ ∀ e ∈ es, e.loc ≠ .mark .disable ∧ e.loc ≠ .mark .enable

theorem lt_of_get {w : World} {c : Nat} {o : Obj} (h : w.heap[c]? = some o) : c < w.heap.size := (Array.getElem?_eq_some_iff.1 h).1
theorem lt_of_cell {w : World} {a : Addr} {v : Value} (h : w.cell? a = some v) : a.block < w.heap.size := by
  unfold World.cell? at h
  split at h
  · rename_i e; exact lt_of_get e
  · cases h
theorem cell?_of_block {w w' : World} {a : Addr} (h : w'.heap[a.block]? = w.heap[a.block]?) : w'.cell? a = w.cell? a := by unfold World.cell?; rw [h]

theorem okay_within {σ : Cfg} {B : Nat → Prop} {w w' : World} {es : Array Event} (hs : σ.Sound w) (h : Within B w w' es) (hf : σ.Free B) : OkayQ σ w w' es := by
  refine ⟨⟨fun i s e => ?_, fun i s e p hp => ?_, fun ev hev t ht hw i s e p hp hl => ?_, h.io⟩, h.still⟩
  · obtain ⟨k, hk⟩ := (hs i s e).2
    exact h.old _ (lt_of_get hk) (hf i s e).1
  · exact cell?_of_block (h.old _ (lt_of_cell ((hs i s e).1 p hp)) ((hf i s e).2 p hp))
  · rcases h.wr ev hev t ht hw _ hl with x | x
    · exact (hf i s e).2 p hp x
    · have := lt_of_cell ((hs i s e).1 p hp); omega

theorem sound_at {σ : Cfg} {w : World} {d : Nat} (h : σ.Sound (w.at d)) : σ.Sound w := h
theorem at_sound {σ : Cfg} {w : World} (h : σ.Sound w) (d : Nat) : σ.Sound (w.at d) := h
theorem within_grown {w w' : World} {es : Array Event} (h : Grown w w') (he : ∀ e ∈ es, EvGood e) : Within (fun _ => False) w w' es :=
  ⟨h.size, fun b hb _ => h.old b hb, fun e hm t ht hw => (by rw [(he e hm).2.2 t ht] at hw; cases hw), fun e hm => ⟨(he e hm).1, (he e hm).2.1⟩, h.io⟩
theorem free_none (σ : Cfg) : σ.Free (fun _ => False) := fun _ _ _ => ⟨id, fun _ _ => id⟩

structure Judge (P : Program) where
  main : Cfg → Bool
  Y : Cfg → Goroutine → World → Prop
  at' : ∀ σ g w d, Y σ g w → Y σ g (w.at d)
  snd : ∀ σ g w, (σ.Sound w → Y σ g w) → Y σ g w
  step : ∀ σ fr cs w, (∀ d, σ.Sound (w.at d) → (stepG P (main σ) (G fr cs) (w.at d)).goes fun g' w' es => Okay σ (w.at d) w' es ∧ Y { σ with dl := deafBehind σ.dl es } g' w') → Y σ (G fr cs) w

/-- The token's judgement. -/
def tokenJ (P : Program) (Fin : Machine → Trace → Prop) : Judge P :=
  { main := fun σ => σ.h == 0, Y := X P Fin, at' := fun _ _ _ d h => (X_at d).2 h, snd := fun _ _ _ h gs sl T q d R hg => h (sound_at R.sound) gs sl T q d R hg, step := fun _ _ _ _ h => X_step rfl h }

section
variable {P : Program} {J : Judge P} {σ : Cfg} {w : World}

theorem deaf_quiet' {σ : Cfg} {es : Array Event} (h : ∀ e ∈ es, e.loc ≠ .mark .disable ∧ e.loc ≠ .mark .enable) : ({ σ with dl := deafBehind σ.dl es } : Cfg) = σ := by
  rw [deafBehind_still h]

/-- A silent step. -/
theorem Judge.silent {fr : Frame} {cs : List Frame} {g' : Goroutine} (h : ∀ w, stepG P (J.main σ) (G fr cs) w = .go g' w #[]) (hY : J.Y σ g' w) : J.Y σ (G fr cs) w := by
  refine J.step σ fr cs w fun d hs => ?_
  rw [h]
  exact ⟨(okay_within hs (within_grown (Grown.refl _) (by simp)) (free_none σ)).1, J.at' _ _ _ _ hY⟩

/-! ### moves of control -/
variable {b : Frame} {a : Act} {k : List Item} {cs : List Frame}
theorem y_skip (h : J.Y σ (G (b.at a k) cs) w) : J.Y σ (G (b.at a (.code .skip :: k)) cs) w := J.silent (fun _ => stepG_skip) h
theorem y_label {l : Nat} (h : J.Y σ (G (b.at a k) cs) w) : J.Y σ (G (b.at a (.code (.label l) :: k)) cs) w := J.silent (fun _ => stepG_label) h
theorem y_inBlock {l : Nat} (h : J.Y σ (G (b.at a k) cs) w) : J.Y σ (G (b.at a (.inBlock l :: k)) cs) w := J.silent (fun _ => stepG_inBlock) h
theorem y_seq {x y : Code} (h : J.Y σ (G (b.at a (.code x :: .code y :: k)) cs) w) : J.Y σ (G (b.at a (.code (.seq x y) :: k)) cs) w := J.silent (fun _ => stepG_seq) h
theorem y_cond {c : Operand} {x y : Code} (t : Bool) (hc : a.eval c = .bool t) (h : J.Y σ (G (b.at a (.code (if t then x else y) :: k)) cs) w) : J.Y σ (G (b.at a (.code (.cond c x y) :: k)) cs) w := J.silent (fun _ => stepG_cond hc) h
theorem y_block {l : Nat} {c : Code} (h : J.Y σ (G (b.at a (.code c :: .inBlock l :: k)) cs) w) : J.Y σ (G (b.at a (.code (.block l c) :: k)) cs) w := J.silent (fun _ => stepG_block) h
theorem y_loop {c : Code} (h : J.Y σ (G (b.at a (.code c :: .inLoop c :: k)) cs) w) : J.Y σ (G (b.at a (.code (.loop c) :: k)) cs) w := J.silent (fun _ => stepG_loop) h
theorem y_inLoop {c : Code} (h : J.Y σ (G (b.at a (.code c :: .inLoop c :: k)) cs) w) : J.Y σ (G (b.at a (.inLoop c :: k)) cs) w := J.silent (fun _ => stepG_inLoop) h
theorem y_exit {id : Nat} {k' : List Item} (he : exitTo id k = some k') (h : J.Y σ (G (b.at a k') cs) w) : J.Y σ (G (b.at a (.code (.exit id) :: k)) cs) w := J.silent (fun _ => stepG_exit he) h
theorem stepG_goto {main : Bool} {l : Nat} {k' : List Item} (h : gotoIn l k = some k') : stepG P main (G (b.at a (.code (.goto l) :: k)) cs) w = .go (G (b.at a k') cs) w := by simp [G, stepG, stepG.exec, Frame.at, h]
theorem y_goto {l : Nat} {k' : List Item} (he : gotoIn l k = some k') (h : J.Y σ (G (b.at a k') cs) w) : J.Y σ (G (b.at a (.code (.goto l) :: k)) cs) w := J.silent (fun _ => stepG_goto he) h
theorem y_region {id : Nat} {ops : Array Oper} (h : J.Y σ (G (b.at a (.inRegion ops (List.range ops.size) :: k)) cs) w) : J.Y σ (G (b.at a (.code (.region id ops false) :: k)) cs) w := J.silent (fun _ => stepG_region) h
theorem y_regionEnd {ops : Array Oper} (h : J.Y σ (G (b.at a k) cs) w) : J.Y σ (G (b.at a (.inRegion ops [] :: k)) cs) w := J.silent (fun _ => stepG_region_end) h
theorem y_end (h : J.Y σ (G { b.at a [] with mode := .returning } cs) w) : J.Y σ (G (b.at a []) cs) w := J.silent (fun _ => stepG_end) h
theorem y_ret (h : J.Y σ (G { b.at a (.code .ret :: k) with mode := .returning } cs) w) : J.Y σ (G (b.at a (.code .ret :: k)) cs) w := J.silent (fun _ => stepG_ret') h
theorem y_unwanted {ops : Array Oper} {i : Nat} {rest : List Nat} {o : Oper} (ho : ops[i]? = some o) (hw : Region.wanted o (yielded ops a.tmps) = false)
    (h : J.Y σ (G (b.at (a.put o.dst undef) (.inRegion ops rest :: k)) cs) w) : J.Y σ (G (b.at a (.inRegion ops (i :: rest) :: k)) cs) w := J.silent (fun _ => stepG_unwanted ho hw) h

theorem stepG_scope {main : Bool} {c : Code} : stepG P main (G (b.at a (.code (.scope c) :: k)) cs) w = .go (G (b.at a (.code c :: .inScope c :: k)) cs) w := by simp [G, stepG, stepG.exec, Frame.at]
theorem stepG_inScope {main : Bool} {c : Code} : stepG P main (G (b.at a (.inScope c :: k)) cs) w = .go (G (b.at a k) cs) w := by simp [G, stepG, stepG.exec, Frame.at]
theorem y_scope {c : Code} (h : J.Y σ (G (b.at a (.code c :: .inScope c :: k)) cs) w) : J.Y σ (G (b.at a (.code (.scope c) :: k)) cs) w := J.silent (fun _ => stepG_scope) h
theorem y_inScope {c : Code} (h : J.Y σ (G (b.at a k) cs) w) : J.Y σ (G (b.at a (.inScope c :: k)) cs) w := J.silent (fun _ => stepG_inScope) h
theorem y_condT {c : Operand} {x y : Code} (hc : a.eval c = .bool true) (h : J.Y σ (G (b.at a (.code x :: k)) cs) w) : J.Y σ (G (b.at a (.code (.cond c x y) :: k)) cs) w := y_cond true hc h
theorem y_condF {c : Operand} {x y : Code} (hc : a.eval c = .bool false) (h : J.Y σ (G (b.at a (.code y :: k)) cs) w) : J.Y σ (G (b.at a (.code (.cond c x y) :: k)) cs) w := y_cond false hc h
/-- Plain moves of control: what is to be done behind them. -/
def plain : List Item → Option (List Item)
  | .code .skip :: k => some k
  | .inBlock _ :: k => some k
  | .code (.seq x y) :: k => some (.code x :: .code y :: k)
  | .code (.exit id) :: k => exitTo id k
  | .inRegion _ [] :: k => some k
  | .code (.scope c) :: k => some (.code c :: .inScope c :: k)
  | .inScope _ :: k => some k
  | _ => none
theorem y_go {k k' : List Item} (he : plain k = some k') (h : J.Y σ (G (b.at a k') cs) w) : J.Y σ (G (b.at a k) cs) w := by
  unfold plain at he
  split at he
  · cases he; exact y_skip h
  · cases he; exact y_inBlock h
  · cases he; exact y_seq h
  · exact y_exit he h
  · cases he; exact y_regionEnd h
  · cases he; exact y_scope h
  · cases he; exact y_inScope h
  · cases he
theorem rg : (∀ l : List Oper, l.toArray.size = l.length) ∧ (∀ (x : Oper) (l : List Oper), (x :: l).length = l.length + 1) ∧ ([] : List Oper).length = 0 := ⟨fun _ => rfl, fun _ _ => rfl, rfl⟩

/-! ### one operation -/
/-- What an operation has come to. -/
inductive Did where
  | act (a : Act)
  | call (f : FuncId) (args : Array Value)
  | panic (v : Value)
def didOf (o : Oper) (a : Act) (K : Did → World → Prop) : Result Next → Prop
  | .ok (.value v) w' => K (.act (a.put o.dst v)) w'
  | .ok .skip w' => K (.act (a.put o.dst undef)) w'
  | .ok (.defer d) w' => K (.act ({ a with defers := d :: a.defers }.put o.dst undef)) w'
  | .ok (.enter f args) w' => K (.call f args) w'
  | .halt (.panic v) w' => K (.panic v) w'
  | _ => False
@[go_sem] theorem didOf_value (o : Oper) (a : Act) (K : Did → World → Prop) (v : Value) (w : World) : didOf o a K (.ok (.value v) w) = K (.act (a.put o.dst v)) w := rfl
@[go_sem] theorem didOf_skip (o : Oper) (a : Act) (K : Did → World → Prop) (w : World) : didOf o a K (.ok .skip w) = K (.act (a.put o.dst undef)) w := rfl
@[go_sem] theorem didOf_defer (o : Oper) (a : Act) (K : Did → World → Prop) (d : Deferred) (w : World) : didOf o a K (.ok (.defer d) w) = K (.act ({ a with defers := d :: a.defers }.put o.dst undef)) w := rfl
@[go_sem] theorem didOf_enter (o : Oper) (a : Act) (K : Did → World → Prop) (f : FuncId) (args : Array Value) (w : World) : didOf o a K (.ok (.enter f args) w) = K (.call f args) w := rfl
@[go_sem] theorem didOf_panic (o : Oper) (a : Act) (K : Did → World → Prop) (v : Value) (w : World) : didOf o a K (.halt (.panic v) w) = K (.panic v) w := rfl

theorem didOf_mono {o : Oper} {a : Act} {K K' : Did → World → Prop} {r : Result Next} (hk : ∀ D w', K D w' → K' D w') (h : didOf o a K r) : didOf o a K' r := by
  cases r with
  | ok n w' => cases n <;> first | exact hk _ _ h | exact h
  | halt x w' => cases x <;> first | exact hk _ _ h | exact h
theorem didOf_res {o : Oper} {a : Act} {K : Did → World → Prop} {r : Result Next} (h : didOf o a K r) : didOf o a (fun D w' => K D w' ∧ w' = resW r) r := by
  cases r with
  | ok n w' => cases n <;> first | exact ⟨h, rfl⟩ | exact h
  | halt x w' => cases x <;> first | exact ⟨h, rfl⟩ | exact h
/-- What follows upon it, at the grain of records. -/
def recOf (P : Program) (b : Frame) (a : Act) (ops : Array Oper) (i : Nat) (rest : List Nat) (k : List Item) (cs : List Frame) : Did → Goroutine
  | .act a' => G (b.at a' (.inRegion ops rest :: k)) cs
  | .call f args => G (Frame.enter P f args .normal) (b.at a (.inRegion ops (i :: rest) :: k) :: cs)
  | .panic v => G { b.at a (.inRegion ops (i :: rest) :: k) with mode := .panicking [{ v, recovered := false }] } cs

theorem goes_did {main : Bool} {ops : Array Oper} {i : Nat} {rest : List Nat} {o : Oper} {K : Goroutine → World → Array Event → Prop} (ho : ops[i]? = some o) (hw : Region.wanted o (yielded ops a.tmps) = true) (hk : (b.kind == CallKind.early) = false)
    (h : didOf o a (fun D w' => K (recOf P b a ops i rest k cs D) w' (listed P b.fn a o w)) ((execOp a.eval o).run P w)) : (stepG P main (G (b.at a (.inRegion ops (i :: rest) :: k)) cs) w).goes K := by
  have hfin : ∀ v, (b.at a (.inRegion ops (i :: rest) :: k)).finish v = b.at (a.put o.dst v) (.inRegion ops rest :: k) := by
    intro v; rw [Frame.finish_at, ho]; rfl
  have hk' : ((b.at a (.inRegion ops (i :: rest) :: k)).kind == CallKind.early) = false := hk
  rw [stepG_oper ho hw]
  generalize hr : (execOp a.eval o).run P w = r at h
  match r, h with
  | .ok (.value v) w', h =>
    simp only [stepG.apply, Sem.runT_eq, hr, if_true, hk', Bool.false_eq_true, if_false, GStep.after, Array.append_empty, hfin]
    exact h
  | .ok .skip w', h =>
    simp only [stepG.apply, Sem.runT_eq, hr, if_true, hk', Bool.false_eq_true, if_false, GStep.after, Array.append_empty, hfin]
    exact h
  | .ok (.defer d) w', h =>
    have hd : ({ b.at a (.inRegion ops (i :: rest) :: k) with defers := d :: a.defers } : Frame).finish undef = b.at ({ a with defers := d :: a.defers }.put o.dst undef) (.inRegion ops rest :: k) := by
      have := Frame.finish_at b { a with defers := d :: a.defers } ops i rest k undef
      rw [ho] at this; exact this
    simp only [stepG.apply, Sem.runT_eq, hr, if_true, hk', Bool.false_eq_true, if_false, GStep.after, Array.append_empty]
    have e : ({ b.at a (.inRegion ops (i :: rest) :: k) with defers := d :: (b.at a (.inRegion ops (i :: rest) :: k)).defers } : Frame).finish undef = _ := hd
    rw [e]
    exact h
  | .ok (.enter f args) w', h =>
    have hw0 : (match (b.at a (.inRegion ops (i :: rest) :: k)).todo with | .call _ true _ _ :: _ => CallKind.wrapped | _ => .normal) = .normal := rfl
    simp only [stepG.apply, Sem.runT_eq, hr, if_true, hk', Bool.false_eq_true, if_false, GStep.after, Array.append_empty]
    exact h
  | .halt (.panic v) w', h =>
    simp only [stepG.apply, Sem.runT_eq, hr, if_true, hk', Bool.false_eq_true, if_false, GStep.after, Array.append_empty]
    exact h

/-- AN OPERATION: 'hK' gives what follows, at whatever count of draws. -/
theorem y_op {ops : Array Oper} {i : Nat} {rest : List Nat} {o : Oper} (ho : ops[i]? = some o) (hw : Region.wanted o (yielded ops a.tmps) = true) (hk : (b.kind == CallKind.early) = false)
    (h : ∀ d, σ.Sound w → ∀ K : Did → World → Prop, (∀ D w' d', OkayQ σ (w.at d) (w'.at d') (listed P b.fn a o (w.at d)) → J.Y σ (recOf P b a ops i rest k cs D) w' → K D (w'.at d')) → didOf o a K ((execOp a.eval o).run P (w.at d))) :
    J.Y σ (G (b.at a (.inRegion ops (i :: rest) :: k)) cs) w := by
  refine J.step σ _ _ w fun d hs => goes_did ho hw hk ?_
  refine h d (sound_at hs) _ fun D w' d' hok hY => ⟨hok.1, ?_⟩
  rw [deaf_quiet' hok.2]
  exact J.at' _ _ _ _ hY

/-- What an operation that writes nothing lists. -/
theorem okayQ_nw {fn : FuncId} {o : Oper} {d : Nat} (hs : σ.Sound w) (hnw : Nw (execOp a.eval o)) : OkayQ σ (w.at d) (resW ((execOp a.eval o).run P (w.at d))) (listed P fn a o (w.at d)) := by
  obtain ⟨h1, h2⟩ := nw_runT P hnw (w.at d) #[]
  rw [Sem.runT_eq] at h1 h2
  refine okay_within (at_sound hs d) (within_grown h2 fun e he => ?_) (free_none σ)
  exact (h1 e (mem_listed he)).elim (fun x => by simp at x) id

/-- AN OPERATION THAT WRITES NOTHING. -/
theorem y_nw {ops : Array Oper} {i : Nat} {rest : List Nat} {o : Oper} (ho : ops[i]? = some o) (hw : Region.wanted o (yielded ops a.tmps) = true) (hk : (b.kind == CallKind.early) = false) (hnw : Nw (execOp a.eval o))
    (h : ∀ d, σ.Sound w → ∀ K : Did → World → Prop, (∀ D w' d', J.Y σ (recOf P b a ops i rest k cs D) w' → K D (w'.at d')) → didOf o a K ((execOp a.eval o).run P (w.at d))) :
    J.Y σ (G (b.at a (.inRegion ops (i :: rest) :: k)) cs) w := by
  refine J.step σ _ _ w fun d hs => goes_did ho hw hk ?_
  have hok := okayQ_nw (P := P) (w := w) (fn := b.fn) (d := d) (sound_at hs) hnw
  refine didOf_mono ?_ (didOf_res (h d (sound_at hs) (fun D w' => ∃ w'' d', w' = w''.at d' ∧ J.Y σ (recOf P b a ops i rest k cs D) w'') (fun D w' d' hY => ⟨w', d', rfl, hY⟩)))
  rintro D w' ⟨⟨w'', d', e1, hY⟩, e⟩
  rw [deaf_quiet' hok.2, e1]
  rw [e1] at e
  rw [← e] at hok
  exact ⟨hok.1, J.at' _ _ _ _ hY⟩
end

end Go.TX
