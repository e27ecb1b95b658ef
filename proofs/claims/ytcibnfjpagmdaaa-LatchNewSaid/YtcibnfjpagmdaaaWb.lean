/- Operations that write in known blocks alone; more operations that write nothing. -/
import Derived.Test.YtcibnfjpagmdaaaExt
namespace Go.TX
open Go.Conc

def Obj.noView : Obj → Prop
  | .view _ _ => False
  | _ => True

/-- Writes in blocks of B alone. -/
def Wb (B : Nat → Prop) {α : Type} : Sem α → Prop
  | .pure _ => True
  | .load _ _ k => ∀ v, Wb B (k v)
  | .store _ a _ k => B a.block ∧ Wb B k
  | .new _ k => ∀ r, Wb B (k r)
  | .shape _ k => ∀ s, Wb B (k s)
  | .freeze _ _ _ => False
  | .frozen _ k => ∀ b, Wb B (k b)
  | .getObj _ k => ∀ o, Wb B (k o)
  | .setObj r o k => B r ∧ Obj.noView o ∧ Wb B k
  | .choose _ k => ∀ n, Wb B (k n)
  | .sys _ _ => False
  | .program k => ∀ p, Wb B (k p)
  | .mark m k => m = .noRoom ∧ Wb B k
  | .halt _ => True

section
variable {α β : Type} {B : Nat → Prop}
theorem Wb_bind0 : ∀ {s : Sem α} {f : α → Sem β}, Wb B s → (∀ a, Wb B (f a)) → Wb B (s.bind f)
  | .pure a, _, _, h => h a
  | .load _ _ _, _, h, g => fun v => Wb_bind0 (h v) g
  | .new _ _, _, h, g => fun v => Wb_bind0 (h v) g
  | .shape _ _, _, h, g => fun v => Wb_bind0 (h v) g
  | .frozen _ _, _, h, g => fun v => Wb_bind0 (h v) g
  | .getObj _ _, _, h, g => fun v => Wb_bind0 (h v) g
  | .choose _ _, _, h, g => fun v => Wb_bind0 (h v) g
  | .program _, _, h, g => fun v => Wb_bind0 (h v) g
  | .mark _ _, _, h, g => ⟨h.1, Wb_bind0 h.2 g⟩
  | .halt _, _, _, _ => trivial
  | .store _ _ _ _, _, h, g => ⟨h.1, Wb_bind0 h.2 g⟩
  | .freeze _ _ _, _, h, _ => h.elim
  | .setObj _ _ _, _, h, g => ⟨h.1, h.2.1, Wb_bind0 h.2.2 g⟩
  | .sys _ _, _, h, _ => h.elim
theorem Wb_bind {s : Sem α} {f : α → Sem β} (h : Wb B s) (g : ∀ a, Wb B (f a)) : Wb B (s >>= f) := Wb_bind0 h g
theorem Wb_ite {c : Prop} [Decidable c] {s t : Sem α} (h : Wb B s) (g : Wb B t) : Wb B (if c then s else t) := by split <;> assumption
theorem Wb_pure (a : α) : Wb B (pure a : Sem α) := trivial
theorem wb_of_nw : ∀ {s : Sem α}, Nw s → Wb B s
  | .pure _, _ => trivial
  | .load _ _ _, h => fun v => wb_of_nw (h v)
  | .new _ _, h => fun v => wb_of_nw (h v)
  | .shape _ _, h => fun v => wb_of_nw (h v)
  | .frozen _ _, h => fun v => wb_of_nw (h v)
  | .getObj _ _, h => fun v => wb_of_nw (h v)
  | .choose _ _, h => fun v => wb_of_nw (h v)
  | .program _, h => fun v => wb_of_nw (h v)
  | .mark _ _, h => ⟨h.1, wb_of_nw h.2⟩
  | .halt _, _ => trivial
  | .store _ _ _ _, h => h.elim
  | .freeze _ _ _, h => h.elim
  | .setObj _ _ _, h => h.elim
  | .sys _ _, h => h.elim
end

/-- What such an operation may list. -/
def EvIn (B : Nat → Prop) (e : Event) : Prop := e.loc ≠ .mark .disable ∧ e.loc ≠ .mark .enable ∧ ∀ t, (MemAct.ofEvent e).touch? = some t → t.write = true → ∀ a, t.loc = .cell a → B a.block
theorem evIn_good {B : Nat → Prop} {e : Event} (h : EvGood e) : EvIn B e := ⟨h.1, h.2.1, fun t ht hw => by rw [h.2.2 t ht] at hw; cases hw⟩
theorem evIn_write {B : Nat → Prop} {a : Addr} (s : Bool) (h : B a.block) : EvIn B ⟨.cell a, true, s⟩ := ⟨by simp, by simp, fun t ht _ x hx => by
  cases s <;> simp [MemAct.ofEvent, MemAct.touch?] at ht <;> subst ht <;> simp at hx <;> subst hx <;> exact h⟩
theorem evIn_obj {B : Nat → Prop} (r : Nat) (w s : Bool) : EvIn B ⟨.obj r, w, s⟩ := ⟨by simp, by simp, fun t ht _ x hx => by
  cases w <;> cases s <;> simp [MemAct.ofEvent, MemAct.touch?] at ht <;> subst ht <;> simp at hx⟩

/-- Memory is turned in B alone. -/
structure GrownB (B : Nat → Prop) (w w' : World) : Prop where
  size : w.heap.size ≤ w'.heap.size
  old : ∀ b, b < w.heap.size → ¬ B b → w'.heap[b]? = w.heap[b]?
  io : w'.os = w.os ∧ w'.output = w.output
theorem GrownB.refl {B : Nat → Prop} (w : World) : GrownB B w w := ⟨Nat.le_refl _, fun _ _ _ => rfl, rfl, rfl⟩
theorem GrownB.trans {B : Nat → Prop} {a b c : World} (h : GrownB B a b) (g : GrownB B b c) : GrownB B a c := ⟨Nat.le_trans h.size g.size, fun x hx hB => (g.old x (Nat.lt_of_lt_of_le hx h.size) hB).trans (h.old x hx hB), g.io.1.trans h.io.1, g.io.2.trans h.io.2⟩
theorem GrownB.set {B : Nat → Prop} {w w' : World} {a : Addr} {v : Value} (hB : B a.block) (h : GrownB B (w.setCell a v) w') : GrownB B w w' := by
  refine GrownB.trans (b := w.setCell a v) ⟨by rw [setCell_size]; exact Nat.le_refl _, fun b _ hb => setCell_heap_ne (fun e => hb (e ▸ hB)), rfl, rfl⟩ h
theorem GrownB.setO {B : Nat → Prop} {w w' : World} {r : Nat} {o : Obj} (hB : B r) (h : GrownB B { w with heap := w.heap.setIfInBounds r o } w') : GrownB B w w' := by
  refine GrownB.trans (b := { w with heap := w.heap.setIfInBounds r o }) ⟨by simp, fun b _ hb => ?_, rfl, rfl⟩ h
  exact Array.getElem?_setIfInBounds_ne (fun e : r = b => hb (e ▸ hB))
theorem GrownB.push {B : Nat → Prop} {w w' : World} {o : Obj} (h : GrownB B { w with heap := w.heap.push o } w') : GrownB B w w' := by
  refine GrownB.trans (b := { w with heap := w.heap.push o }) ⟨by simp, fun b hb _ => ?_, rfl, rfl⟩ h
  simp [Array.getElem?_push, Nat.ne_of_lt hb]

/-- No block of B is a view. -/
def NV (B : Nat → Prop) (w : World) : Prop := ∀ b, B b → b < w.heap.size ∧ ∀ o, w.heap[b]? = some o → Obj.noView o
theorem NV.push {B : Nat → Prop} {w : World} {o : Obj} (h : NV B w) : NV B { w with heap := w.heap.push o } := fun b hb => by
  have := (h b hb).1
  refine ⟨by simp; omega, fun o' ho => (h b hb).2 o' ?_⟩
  simpa [Array.getElem?_push, Nat.ne_of_lt this] using ho
theorem NV.set {B : Nat → Prop} {w : World} {a : Addr} {v : Value} (h : NV B w) : NV B (w.setCell a v) := fun b hb => by
  refine ⟨by rw [setCell_size]; exact (h b hb).1, fun o ho => ?_⟩
  unfold World.setCell at ho
  simp only [Array.getElem?_modify] at ho
  split at ho
  · obtain ⟨x, hx, rfl⟩ := Option.map_eq_some_iff.1 ho
    have := (h b hb).2 x hx
    cases x <;> first | trivial | exact this
  · exact (h b hb).2 o ho
theorem NV.setO {B : Nat → Prop} {w : World} {r : Nat} {o : Obj} (h : NV B w) (ho : Obj.noView o) : NV B { w with heap := w.heap.setIfInBounds r o } := fun b hb => by
  refine ⟨by simpa using (h b hb).1, fun o' ho' => ?_⟩
  simp only [Array.getElem?_setIfInBounds] at ho'
  split at ho'
  · split at ho'
    · obtain rfl := Option.some.inj ho'; exact ho
    · cases ho'
  · exact (h b hb).2 o' ho'

theorem farStore_nv {P : Program} {B : Nat → Prop} {w : World} {a : Addr} {v : Value} {at_ : Bool} (h : NV B w) (hB : B a.block) : ∃ x, w.farStore P a v at_ = .error x := by
  unfold World.farStore
  split
  · rename_i u e; exact ((h _ hB).2 _ e).elim
  · exact ⟨_, rfl⟩

theorem runT_store {α : Type} (P : Program) (m : Mode) (a : Addr) (v : Value) (k : Sem α) (w : World) (es : Array Event) :
    (Sem.store m a v k).runT P w es = (.halt (.stuck "store: not the value of one cell") w, es) ∨ (Sem.store m a v k).runT P w es = (match w.cell? a with
    | some _ =>
      if w.frozen? a then (.halt (.unsupported (.unsafePointer "a write to bytes that a string shares")) w, es)
      else k.runT P (w.setCell a v) (es.push ⟨.cell a, true, m == .atomic⟩)
    | none => match w.farStore P a v (m == .atomic) with
      | .ok (w, touched) => k.runT P w (es ++ touched.toArray.map (⟨.cell ·, true, m == .atomic⟩))
      | .error h => (.halt h w, es)) := by
  cases v <;> first | exact .inr rfl | exact .inl rfl

theorem wb_runT {α : Type} (P : Program) (B : Nat → Prop) : ∀ {s : Sem α}, Wb B s → ∀ (w : World) (es : Array Event), NV B w → (∀ e ∈ (s.runT P w es).2, e ∈ es ∨ EvIn B e) ∧ GrownB B w (resW (s.runT P w es).1)
  | .pure a, _, w, es, _ => ⟨fun e he => .inl he, GrownB.refl w⟩
  | .load m a k, h, w, es, nv => by
    unfold Sem.runT
    split
    · rename_i v _
      obtain ⟨h1, h2⟩ := wb_runT P B (h v) w (es.push ⟨.cell a, false, m == .atomic⟩) nv
      exact ⟨fun e he => (h1 e he).elim (fun x => (Array.mem_push.1 x).elim .inl fun y => .inr (y ▸ evIn_good (evGood_read _ _))) .inr, h2⟩
    · split
      · rename_i v touched _
        obtain ⟨h1, h2⟩ := wb_runT P B (h v) w (es ++ touched.toArray.map (⟨.cell ·, false, m == .atomic⟩)) nv
        refine ⟨fun e he => (h1 e he).elim (fun x => (Array.mem_append.1 x).elim .inl fun y => .inr ?_) .inr, h2⟩
        obtain ⟨x, _, rfl⟩ := Array.mem_map.1 y
        exact evIn_good (evGood_read _ _)
      · exact ⟨fun e he => .inl he, GrownB.refl w⟩
  | .new o k, h, w, es, nv => by
    unfold Sem.runT
    obtain ⟨h1, h2⟩ := wb_runT P B (h w.heap.size) { w with heap := w.heap.push o } es nv.push
    exact ⟨h1, h2.push⟩
  | .shape r k, h, w, es, nv => wb_runT P B (h _) w es nv
  | .frozen r k, h, w, es, nv => wb_runT P B (h _) w es nv
  | .getObj r k, h, w, es, nv => by
    unfold Sem.runT
    split
    · exact ⟨fun e he => .inl he, GrownB.refl w⟩
    · rename_i o _ _
      obtain ⟨h1, h2⟩ := wb_runT P B (h o) w (es.push ⟨.obj r, false, o.isChan⟩) nv
      exact ⟨fun e he => (h1 e he).elim (fun x => (Array.mem_push.1 x).elim .inl fun y => .inr (y ▸ evIn_obj _ _ _)) .inr, h2⟩
    · exact ⟨fun e he => .inl he, GrownB.refl w⟩
  | .choose q k, h, w, es, nv => by
    unfold Sem.runT
    split
    · exact wb_runT P B (h 0) w es nv
    · obtain ⟨h1, h2⟩ := wb_runT P B (h (q.cut (w.tape w.drawn q))) { w with drawn := w.drawn + 1 } es nv
      exact ⟨h1, h2.size, h2.old, h2.io⟩
  | .program k, h, w, es, nv => wb_runT P B (h P) w es nv
  | .mark m k, h, w, es, nv => by
    unfold Sem.runT
    obtain ⟨h1, h2⟩ := wb_runT P B h.2 w (es.push ⟨.mark m, false, true⟩) nv
    refine ⟨fun e he => (h1 e he).elim (fun x => (Array.mem_push.1 x).elim .inl fun y => .inr ?_) .inr, h2⟩
    obtain rfl := h.1
    subst y
    exact ⟨by simp, by simp, fun b hb => by simp [MemAct.ofEvent, MemAct.touch?] at hb⟩
  | .halt x, _, w, es, _ => ⟨fun e he => .inl he, GrownB.refl w⟩
  | .store m a v k, h, w, es, nv => by
    rcases runT_store P m a v k w es with e | e
    · rw [e]; exact ⟨fun e he => .inl he, GrownB.refl w⟩
    · rw [e]
      split
      · split
        · exact ⟨fun e he => .inl he, GrownB.refl w⟩
        · obtain ⟨h1, h2⟩ := wb_runT P B h.2 (w.setCell a v) (es.push ⟨.cell a, true, m == .atomic⟩) nv.set
          exact ⟨fun e he => (h1 e he).elim (fun x => (Array.mem_push.1 x).elim .inl fun y => .inr (y ▸ evIn_write _ h.1)) .inr, h2.set h.1⟩
      · obtain ⟨x, hx⟩ := farStore_nv (P := P) (v := v) (at_ := m == .atomic) nv h.1
        rw [hx]
        exact ⟨fun e he => .inl he, GrownB.refl w⟩
  | .freeze _ _ _, h, _, _, _ => h.elim
  | .setObj r o k, h, w, es, nv => by
    unfold Sem.runT
    split
    · exact ⟨fun e he => .inl he, GrownB.refl w⟩
    · obtain ⟨h1, h2⟩ := wb_runT P B h.2.2 { w with heap := w.heap.setIfInBounds r o } (es.push ⟨.obj r, true, o.isChan⟩) (nv.setO h.2.1)
      exact ⟨fun e he => (h1 e he).elim (fun x => (Array.mem_push.1 x).elim .inl fun y => .inr (y ▸ evIn_obj _ _ _)) .inr, h2.setO h.1⟩
    · exact ⟨fun e he => .inl he, GrownB.refl w⟩
  | .sys _ _, h, _, _, _ => h.elim

/-! ### instructions -/
section
variable {B : Nat → Prop}
theorem add_block (a : Addr) (i : Nat) : (a.add i).block = a.block := by unfold Addr.add; split <;> rfl
theorem wb_storeCells (a : Addr) (hB : B a.block) : ∀ (vs : List Value) (i : Nat), Wb B (storeCells a vs i)
  | [], _ => trivial
  | _ :: rest, i => Wb_bind (show B (a.add i).block ∧ Wb B (Sem.pure ()) from ⟨(add_block a i).symm ▸ hB, trivial⟩) fun _ => wb_storeCells a hB rest (i + 1)
theorem wb_storeVar (t : TypeId) (a : Addr) (v : Value) (hB : B a.block) : Wb B (storeVar t a v) := by
  unfold storeVar
  refine Wb_bind (wb_of_nw (nw_sizeOf t)) fun n => ?_
  split
  · trivial
  · exact wb_storeCells a hB _ _
theorem wb_store (t : TypeId) (a : Addr) (v : Value) (hB : B a.block) : Wb B (Instr.storeAt t (.pointer (some a)) v) := by
  unfold Instr.storeAt Instr.sureAddr
  exact wb_storeVar t a v hB
end

section
variable {P : Program} {J : Judge P} {σ : Cfg} {w : World} {b : Frame} {a : Act} {k : List Item} {cs : List Frame}

theorem nv_cell {w : World} {ad : Addr} {u : Value} (hc : w.cell? ad = some u) : NV (· = ad.block) w := by
  rintro _ rfl
  refine ⟨lt_of_cell hc, fun o ho => ?_⟩
  unfold World.cell? at hc
  rw [ho] at hc
  cases o <;> first | trivial | cases hc

theorem okayQ_wb {B : Nat → Prop} {fn : FuncId} {o : Oper} {d : Nat} (hs : σ.Sound w) (hwb : Wb B (execOp a.eval o)) (nv : NV B w) (hf : σ.Free B) : OkayQ σ (w.at d) (resW ((execOp a.eval o).run P (w.at d))) (listed P fn a o (w.at d)) := by
  obtain ⟨h1, h2⟩ := wb_runT P B hwb (w.at d) #[] nv
  rw [Sem.runT_eq] at h1 h2
  have h3 : ∀ e ∈ listed P fn a o (w.at d), EvIn B e := fun e he => (h1 e (mem_listed he)).elim (fun x => by simp at x) id
  exact okay_within (at_sound hs d) ⟨h2.size, h2.old, fun e he t ht hw x hx => .inl ((h3 e he).2.2 t ht hw x hx), fun e he => ⟨(h3 e he).1, (h3 e he).2.1⟩, h2.io⟩ hf

/-- AN OPERATION THAT WRITES IN B ALONE. -/
theorem y_wb (B : Nat → Prop) {ops : Array Oper} {i : Nat} {rest : List Nat} {o : Oper} (ho : ops[i]? = some o) (hw : Region.wanted o (yielded ops a.tmps) = true) (hk : (b.kind == CallKind.early) = false) (hwb : Wb B (execOp a.eval o)) (nv : NV B w) (hf : σ.Free B)
    (h : ∀ d, σ.Sound w → ∀ K : Did → World → Prop, (∀ D w' d', J.Y σ (recOf P b a ops i rest k cs D) w' → K D (w'.at d')) → didOf o a K ((execOp a.eval o).run P (w.at d))) :
    J.Y σ (G (b.at a (.inRegion ops (i :: rest) :: k)) cs) w := by
  refine J.step σ _ _ w fun d hs => goes_did ho hw hk ?_
  have hok := okayQ_wb (P := P) (fn := b.fn) (d := d) (sound_at hs) hwb nv hf
  refine didOf_mono ?_ (didOf_res (h d (sound_at hs) (fun D w' => ∃ w'' d', w' = w''.at d' ∧ J.Y σ (recOf P b a ops i rest k cs D) w'') (fun D w' d' hY => ⟨w', d', rfl, hY⟩)))
  rintro D w' ⟨⟨w'', d', e1, hY⟩, e⟩
  rw [deaf_quiet' hok.2, e1]
  rw [e1] at e
  rw [← e] at hok
  exact ⟨hok.1, J.at' _ _ _ _ hY⟩

/-- A PLAIN STORE. -/
theorem y_store {ops : Array Oper} {i : Nat} {rest : List Nat} {o : Oper} {t : TypeId} {x y : Operand} {ad : Addr} {u : Value} (ho : ops[i]? = some o) (hw : Region.wanted o (yielded ops a.tmps) = true) (hk : (b.kind == CallKind.early) = false) (hop : o.op = .store t x y)
    (hx : a.eval x = .pointer (some ad)) (hc : w.cell? ad = some u) (hf : σ.Free (· = ad.block))
    (h : ∀ d, σ.Sound w → ∀ K : Did → World → Prop, (∀ D w' d', J.Y σ (recOf P b a ops i rest k cs D) w' → K D (w'.at d')) → didOf o a K ((execOp a.eval o).run P (w.at d))) :
    J.Y σ (G (b.at a (.inRegion ops (i :: rest) :: k)) cs) w := by
  refine y_wb (· = ad.block) ho hw hk ?_ (nv_cell hc) hf h
  unfold execOp
  simp only [hop, hx]
  exact Wb_bind (wb_store t ad _ rfl) fun _ => trivial

theorem free_fresh {c : Nat} (hs : σ.Sound w) (hb : w.heap.size ≤ c) : σ.Free (· = c) := fun i s e => by
  obtain ⟨h1, k, h2⟩ := hs i s e
  refine ⟨fun x => ?_, fun p hp x => ?_⟩
  · have := lt_of_get h2; omega
  · have := lt_of_cell (h1 p hp); omega
theorem free_noseat {B : Nat → Prop} (h : σ.seat = fun _ => none) : σ.Free B := fun i s e => by rw [h] at e; cases e
theorem free_dl {B : Nat → Prop} {n : Nat} (h : σ.Free B) : ({ σ with dl := n } : Cfg).Free B := h
end
end Go.TX
