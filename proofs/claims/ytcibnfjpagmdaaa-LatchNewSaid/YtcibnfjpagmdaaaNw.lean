/- Operations that write nothing: they list reads alone, and memory grows at most. -/
import Derived.Test.YtcibnfjpagmdaaaGive
import Derived.WalkKit
namespace Go.TX
open Go.Conc

/-- What such an operation's run may hold. -/
def Nw {α : Type} : Sem α → Prop
  | .pure _ => True
  | .load _ _ k => ∀ v, Nw (k v)
  | .store _ _ _ _ => False
  | .new _ k => ∀ r, Nw (k r)
  | .shape _ k => ∀ s, Nw (k s)
  | .freeze _ _ _ => False
  | .frozen _ k => ∀ b, Nw (k b)
  | .getObj _ k => ∀ o, Nw (k o)
  | .setObj _ _ _ => False
  | .choose _ k => ∀ n, Nw (k n)
  | .sys _ _ => False
  | .program k => ∀ p, Nw (k p)
  | .mark m k => m = .noRoom ∧ Nw k
  | .halt _ => True

section
variable {α β : Type}
theorem Nw_bind0 : ∀ {s : Sem α} {f : α → Sem β}, Nw s → (∀ a, Nw (f a)) → Nw (s.bind f)
  | .pure a, _, _, h => h a
  | .load _ _ _, _, h, g => fun v => Nw_bind0 (h v) g
  | .new _ _, _, h, g => fun v => Nw_bind0 (h v) g
  | .shape _ _, _, h, g => fun v => Nw_bind0 (h v) g
  | .frozen _ _, _, h, g => fun v => Nw_bind0 (h v) g
  | .getObj _ _, _, h, g => fun v => Nw_bind0 (h v) g
  | .choose _ _, _, h, g => fun v => Nw_bind0 (h v) g
  | .program _, _, h, g => fun v => Nw_bind0 (h v) g
  | .mark _ _, _, h, g => ⟨h.1, Nw_bind0 h.2 g⟩
  | .halt _, _, _, _ => trivial
  | .store _ _ _ _, _, h, _ => h.elim
  | .freeze _ _ _, _, h, _ => h.elim
  | .setObj _ _ _, _, h, _ => h.elim
  | .sys _ _, _, h, _ => h.elim
theorem Nw_bind {s : Sem α} {f : α → Sem β} (h : Nw s) (g : ∀ a, Nw (f a)) : Nw (s >>= f) := Nw_bind0 h g
theorem Nw_map {s : Sem α} {f : α → β} (h : Nw s) : Nw (f <$> s) := Nw_bind0 h fun _ => trivial
theorem Nw_pure (a : α) : Nw (pure a : Sem α) := trivial
theorem Nw_ite {c : Prop} [Decidable c] {s t : Sem α} (h : Nw s) (g : Nw t) : Nw (if c then s else t) := by split <;> assumption
end

/-- What such an operation may list. -/
def EvGood (e : Event) : Prop := e.loc ≠ .mark .disable ∧ e.loc ≠ .mark .enable ∧ ∀ b, (MemAct.ofEvent e).touch? = some b → b.write = false

/-- Memory has grown at most. -/
structure Grown (w w' : World) : Prop where
  size : w.heap.size ≤ w'.heap.size
  old : ∀ b, b < w.heap.size → w'.heap[b]? = w.heap[b]?
  io : w'.os = w.os ∧ w'.output = w.output
theorem Grown.refl (w : World) : Grown w w := ⟨Nat.le_refl _, fun _ _ => rfl, rfl, rfl⟩
theorem Grown.trans {a b c : World} (h : Grown a b) (g : Grown b c) : Grown a c := ⟨Nat.le_trans h.size g.size, fun x hx => (g.old x (Nat.lt_of_lt_of_le hx h.size)).trans (h.old x hx), g.io.1.trans h.io.1, g.io.2.trans h.io.2⟩
theorem Grown.push {w w' : World} {o : Obj} (h : Grown { w with heap := w.heap.push o } w') : Grown w w' := by
  refine Grown.trans (b := { w with heap := w.heap.push o }) ⟨by simp, fun b hb => ?_, rfl, rfl⟩ h
  simp [Array.getElem?_push, Nat.ne_of_lt hb]
theorem Grown.drawn {w w' : World} {d : Nat} (h : Grown { w with drawn := d } w') : Grown w w' := ⟨h.size, h.old, h.io⟩

def resW {α : Type} : Result α → World
  | .ok _ w => w
  | .halt _ w => w

theorem evGood_read (a : Addr) (s : Bool) : EvGood ⟨.cell a, false, s⟩ := ⟨by simp, by simp, fun b hb => by cases s <;> simp [MemAct.ofEvent, MemAct.touch?] at hb <;> subst hb <;> rfl⟩
theorem evGood_obj (r : Nat) (s : Bool) : EvGood ⟨.obj r, false, s⟩ := ⟨by simp, by simp, fun b hb => by cases s <;> simp [MemAct.ofEvent, MemAct.touch?] at hb <;> subst hb <;> rfl⟩

theorem nw_runT {α : Type} (P : Program) : ∀ {s : Sem α}, Nw s → ∀ (w : World) (es : Array Event), (∀ e ∈ (s.runT P w es).2, e ∈ es ∨ EvGood e) ∧ Grown w (resW (s.runT P w es).1)
  | .pure a, _, w, es => ⟨fun e he => .inl he, Grown.refl w⟩
  | .load m a k, h, w, es => by
    unfold Sem.runT
    split
    · rename_i v _
      obtain ⟨h1, h2⟩ := nw_runT P (h v) w (es.push ⟨.cell a, false, m == .atomic⟩)
      exact ⟨fun e he => (h1 e he).elim (fun x => (Array.mem_push.1 x).elim .inl fun y => .inr (y ▸ evGood_read _ _)) .inr, h2⟩
    · split
      · rename_i v touched _
        obtain ⟨h1, h2⟩ := nw_runT P (h v) w (es ++ touched.toArray.map (⟨.cell ·, false, m == .atomic⟩))
        refine ⟨fun e he => (h1 e he).elim (fun x => (Array.mem_append.1 x).elim .inl fun y => .inr ?_) .inr, h2⟩
        obtain ⟨x, _, rfl⟩ := Array.mem_map.1 y
        exact evGood_read _ _
      · exact ⟨fun e he => .inl he, Grown.refl w⟩
  | .new o k, h, w, es => by
    unfold Sem.runT
    obtain ⟨h1, h2⟩ := nw_runT P (h w.heap.size) { w with heap := w.heap.push o } es
    exact ⟨h1, h2.push⟩
  | .shape r k, h, w, es => nw_runT P (h _) w es
  | .frozen r k, h, w, es => nw_runT P (h _) w es
  | .getObj r k, h, w, es => by
    unfold Sem.runT
    split
    · exact ⟨fun e he => .inl he, Grown.refl w⟩
    · rename_i o _ _
      obtain ⟨h1, h2⟩ := nw_runT P (h o) w (es.push ⟨.obj r, false, o.isChan⟩)
      exact ⟨fun e he => (h1 e he).elim (fun x => (Array.mem_push.1 x).elim .inl fun y => .inr (y ▸ evGood_obj _ _)) .inr, h2⟩
    · exact ⟨fun e he => .inl he, Grown.refl w⟩
  | .choose q k, h, w, es => by
    unfold Sem.runT
    split
    · exact nw_runT P (h 0) w es
    · obtain ⟨h1, h2⟩ := nw_runT P (h (q.cut (w.tape w.drawn q))) { w with drawn := w.drawn + 1 } es
      exact ⟨h1, h2.drawn⟩
  | .program k, h, w, es => nw_runT P (h P) w es
  | .mark m k, h, w, es => by
    unfold Sem.runT
    obtain ⟨h1, h2⟩ := nw_runT P h.2 w (es.push ⟨.mark m, false, true⟩)
    refine ⟨fun e he => (h1 e he).elim (fun x => (Array.mem_push.1 x).elim .inl fun y => .inr ?_) .inr, h2⟩
    obtain rfl := h.1
    subst y
    exact ⟨by simp, by simp, fun b hb => by simp [MemAct.ofEvent, MemAct.touch?] at hb⟩
  | .halt x, _, w, es => ⟨fun e he => .inl he, Grown.refl w⟩
  | .store _ _ _ _, h, _, _ => h.elim
  | .freeze _ _ _, h, _, _ => h.elim
  | .setObj _ _ _, h, _, _ => h.elim
  | .sys _ _, h, _, _ => h.elim

/-! ### the small pieces -/
section
theorem nw_stuck {α : Type} (s : String) : Nw (stuck s : Sem α) := trivial
theorem nw_unsupported {α : Type} (s : Unsupported) : Nw (unsupported s : Sem α) := trivial
theorem nw_goPanic {α : Type} (v : Value) : Nw (goPanic v : Sem α) := trivial
theorem nw_program : Nw program := fun _ => trivial
theorem nw_load (a : Addr) (m : Mode) : Nw (load a m) := fun _ => trivial
theorem nw_newObj (o : Obj) : Nw (newObj o) := fun _ => trivial
theorem nw_shape (r : Nat) : Nw (shape r) := fun _ => trivial
theorem nw_frozen (a : Addr) : Nw (frozen a) := fun _ => trivial
theorem nw_getObj (r : Nat) : Nw (getObj r) := fun _ => trivial
theorem nw_choose (q : Question) : Nw (choose q) := fun _ => trivial
theorem nw_askRoom (n : Nat) : Nw (askRoom n) := by unfold askRoom; split <;> first | exact ⟨rfl, trivial⟩ | trivial
theorem nw_typeInfo (t : TypeId) : Nw (typeInfo t) := by unfold typeInfo; refine Nw_bind nw_program fun p => ?_; split <;> trivial
theorem nw_underlying (t : TypeId) : Nw (underlying t) := by unfold underlying; refine Nw_bind nw_program fun p => ?_; split <;> trivial
theorem nw_zeroValue (t : TypeId) : Nw (zeroValue t) := by unfold zeroValue; refine Nw_bind (nw_typeInfo t) fun p => ?_; split <;> trivial
theorem nw_sizeOf (t : TypeId) : Nw (Go.sizeOf t) := by unfold Go.sizeOf; exact Nw_bind (nw_typeInfo t) fun p => trivial
theorem nw_isAgg (t : TypeId) : Nw (isAgg t) := by unfold isAgg; refine Nw_bind (nw_underlying t) fun p => ?_; split <;> trivial
theorem nw_loadCellsFrom (a : Addr) : ∀ (n i : Nat) (acc : Array Value), Nw (loadCellsFrom a i n acc)
  | 0, _, _ => trivial
  | n + 1, _, _ => by unfold loadCellsFrom; exact Nw_bind (nw_load _ _) fun v => nw_loadCellsFrom a n _ _
theorem nw_loadCells (a : Addr) (n : Nat) : Nw (loadCells a n) := nw_loadCellsFrom a n 0 #[]
theorem nw_loadVar (t : TypeId) (a : Addr) : Nw (loadVar t a) := by
  unfold loadVar
  refine Nw_bind (nw_isAgg t) fun b => ?_
  split
  · exact Nw_bind (nw_sizeOf t) fun n => Nw_bind (nw_loadCells a n) fun _ => trivial
  · exact nw_load a _
theorem nw_newRow (t : TypeId) (c : Array Value) : Nw (newRow t c) := by unfold newRow; exact Nw_bind (nw_newObj _) fun _ => trivial
theorem nw_newVar (t : TypeId) (v : Value) : Nw (newVar t v) := nw_newRow t _
theorem nw_elemOf (t : TypeId) : Nw (elemOf t) := by unfold elemOf; refine Nw_bind (nw_underlying t) fun d => ?_; split <;> trivial
theorem nw_part (t : TypeId) (cs : Array Value) (off : Nat) : Nw (part t cs off) := by
  unfold part
  refine Nw_bind (nw_isAgg t) fun b => ?_
  split
  · exact Nw_bind (nw_sizeOf t) fun n => trivial
  · split <;> trivial
theorem nw_runtimePanic {α : Type} (e : RuntimeError) : Nw (runtimePanic e : Sem α) := by
  unfold runtimePanic
  refine Nw_bind nw_program fun p => ?_
  cases e <;> first | trivial | exact Nw_bind (nw_elemOf _) fun t => Nw_bind (nw_newVar _ _) fun r => trivial
theorem nw_boundsPanic {α : Type} (k : IntKind) (x y : Int) (c : BoundsCode) : Nw (boundsPanic k x y c : Sem α) := by
  unfold boundsPanic
  dsimp only
  split
  · exact Nw_bind (Nw_map (nw_choose _)) fun _ => nw_runtimePanic _
  · exact Nw_bind (Nw_pure _) fun _ => nw_runtimePanic _
theorem nw_asIntOf (v : Value) : Nw (asIntOf v) := by unfold asIntOf; split <;> trivial
theorem nw_asInt (v : Value) : Nw (asInt v) := by unfold asInt; exact Nw_bind (nw_asIntOf v) fun _ => trivial
theorem nw_asBool (v : Value) : Nw (asBool v) := by unfold asBool; split <;> trivial
theorem nw_asAgg (v : Value) : Nw (asAgg v) := by unfold asAgg; split <;> trivial
theorem nw_asAddr (v : Value) : Nw (asAddr v) := by unfold asAddr; split <;> first | trivial | exact nw_runtimePanic _
theorem nw_viewAt (r : Nat) : Nw (viewAt r) := by
  unfold viewAt
  refine Nw_bind (nw_shape r) fun s => ?_
  split
  · trivial
  · refine Nw_bind (nw_getObj r) fun o => ?_
    split <;> trivial
theorem nw_numberAt (r : Nat) : Nw (numberAt r) := by
  unfold numberAt
  refine Nw_bind (nw_shape r) fun s => ?_
  split
  · trivial
  · refine Nw_bind (nw_getObj r) fun o => ?_
    split <;> trivial
theorem nw_noView (a : Addr) : Nw (noView a) := by
  unfold noView
  refine Nw_bind (nw_viewAt _) fun v => ?_
  split <;> trivial
theorem nw_stringish (a : Addr) : Nw (stringish a) := by
  unfold stringish
  refine Nw_bind (nw_frozen a) fun b => ?_
  split
  · trivial
  · refine Nw_bind (nw_shape _) fun s => ?_
    split
    · exact nw_frozen _
    · trivial
theorem nw_mayBeOne (a b : Addr) : Nw (mayBeOne a b) := by
  unfold mayBeOne
  refine Nw_bind (nw_stringish a) fun x => Nw_bind (nw_stringish b) fun y => ?_
  repeat (first | trivial | exact nw_shape _ | refine Nw_bind ?_ fun _ => ?_)
theorem nw_sameAddr (a b : Addr) : Nw (sameAddr a b) := by
  unfold sameAddr
  split
  · trivial
  · refine Nw_bind (nw_frozen a) fun x => Nw_bind (nw_frozen b) fun y => ?_
    have rest : Nw (do
      noView a
      noView b
      if (← mayBeOne a b) = true then return (← choose (.extern "sameAddr.stringBytes" 2)) == 1
      pure false) := by
      refine Nw_bind (nw_noView a) fun _ => Nw_bind (nw_noView b) fun _ => Nw_bind (nw_mayBeOne a b) fun m => ?_
      split
      · exact Nw_bind (nw_choose _) fun _ => trivial
      · trivial
    split
    · trivial
    · exact rest
theorem nw_samePointer (a b : Option Addr) : Nw (samePointer a b) := by unfold samePointer; split <;> first | exact nw_sameAddr _ _ | trivial
end

/-! ### the operations -/
section
theorem nw_alloc (t : TypeId) (b : Bool) (v : Value) (hv : ∀ a, v ≠ .pointer a) : Nw (Instr.alloc t b v) := by
  unfold Instr.alloc
  refine Nw_bind (nw_zeroValue t) fun z => ?_
  split
  · exact absurd rfl (hv _)
  · exact Nw_bind (nw_newVar _ _) fun _ => trivial
theorem nw_box (t : TypeId) (v : Value) : Nw (Instr.box t v) := by unfold Instr.box; exact Nw_bind (nw_newVar _ _) fun _ => trivial
theorem nw_mapM {α β : Type} {f : α → Sem β} (h : ∀ a, Nw (f a)) : ∀ (l : List α), Nw (l.mapM f)
  | [] => by simp only [List.mapM_nil]; trivial
  | a :: l => by
    rw [List.mapM_cons]
    exact Nw_bind (h a) fun _ => Nw_bind (nw_mapM h l) fun _ => trivial
theorem nw_mapMA {α β : Type} {f : α → Sem β} (h : ∀ a, Nw (f a)) (l : Array α) : Nw (l.mapM f) := by
  rw [Array.mapM_eq_mapM_toList]
  exact Nw_map (nw_mapM h _)
theorem nw_build (t : TypeId) (ps : Array (Nat × Value)) : Nw (Instr.build t ps) := by
  unfold Instr.build
  refine Nw_bind (nw_zeroValue t) fun z => Nw_bind (nw_underlying t) fun d => ?_
  split
  · refine Nw_bind (nw_mapMA (f := fun (f : Field) => do pure (f.offset, ← Go.sizeOf f.type)) (fun f => Nw_bind (nw_sizeOf _) fun _ => trivial) _) fun _ => ?_
    split <;> trivial
  · refine Nw_bind (nw_sizeOf _) fun _ => ?_
    split <;> trivial
  · trivial
theorem nw_buildSlice (t : TypeId) (n : Nat) (ps : Array (Nat × Value)) : Nw (Instr.buildSlice t n ps) := by
  unfold Instr.buildSlice
  refine Nw_bind (nw_underlying t) fun d => ?_
  split
  · rename_i elem
    refine Nw_bind (nw_sizeOf _) fun s => ?_
    dsimp only
    have key : ∀ (zero : Array Value), Nw (match Instr.fill (fun i => some (i * s, s)) ((Array.range (n * s)).map (zero[· % zero.size]!)) ps.toList with
        | some cells => do pure (Value.slice (some (← newRow elem cells)) n n)
        | _ => stuck "buildSlice: a part of the wrong size") := fun zero => by
      split
      · exact Nw_bind (nw_newRow _ _) fun _ => trivial
      · trivial
    split
    · trivial
    · split
      · exact Nw_bind (Nw_pure _) key
      · exact Nw_bind (nw_zeroValue elem) fun z => key z.cells
  · trivial
theorem nw_sureAddr (v : Value) : Nw (Instr.sureAddr v) := by unfold Instr.sureAddr; split <;> trivial
theorem nw_loadAt (t : TypeId) (v : Value) : Nw (Instr.loadAt t v) := by unfold Instr.loadAt; exact Nw_bind (nw_sureAddr v) fun a => nw_loadVar t a
theorem nw_intArith (op : BinOp) (k : IntKind) (x y : Int) : Nw (Op.intArith op k x y) := by unfold Op.intArith; split <;> trivial
theorem nw_intDiv (op : BinOp) (k : IntKind) (x y : Int) : Nw (Op.intDiv op k x y) := by
  unfold Op.intDiv
  split
  · exact nw_runtimePanic _
  · split <;> trivial
theorem nw_intBits (op : BinOp) (k : IntKind) (x y : Int) : Nw (Op.intBits op k x y) := by unfold Op.intBits; dsimp only; split <;> trivial
theorem nw_shift (op : BinOp) (k : IntKind) (x : Int) (k' : IntKind) (y : Int) : Nw (Op.shift op k x k' y) := by
  unfold Op.shift
  split
  · exact nw_runtimePanic _
  · dsimp only; split <;> trivial
theorem nw_intCmp (op : BinOp) (x y : Int) : Nw (Op.intCmp op x y) := by unfold Op.intCmp; split <;> trivial
theorem nw_unary (op : UnOp) (x : Value) : Nw (Op.unary op x) := by unfold Op.unary; split <;> first | trivial | exact nw_intArith _ _ _ _ | exact nw_intBits _ _ _ _
theorem nw_makeChan (t : TypeId) (v : Value) : Nw (Instr.makeChan t v) := by
  unfold Instr.makeChan
  refine Nw_bind (nw_asInt v) fun n => Nw_bind (nw_underlying t) fun d => ?_
  split
  · refine Nw_bind (nw_typeInfo _) fun i => ?_
    dsimp only
    split
    · exact Nw_bind (nw_runtimePanic _) fun _ => Nw_bind (nw_newObj _) fun _ => trivial
    · exact Nw_bind (nw_newObj _) fun _ => trivial
  · trivial
theorem nw_makeMap (t : TypeId) (r : Option Value) : Nw (Instr.makeMap t r) := by
  unfold Instr.makeMap
  dsimp only
  split
  · refine Nw_bind (nw_underlying t) fun d => ?_
    split
    · exact Nw_bind (nw_asInt _) fun _ => Nw_bind (nw_newObj _) fun _ => trivial
    · trivial
  · exact Nw_bind (nw_newObj _) fun _ => trivial
theorem nw_byteOf (a : Addr) : Nw (byteOf a) := by
  unfold byteOf
  repeat' (first | trivial | exact nw_shape _ | exact nw_sizeOf _ | exact nw_typeInfo _ | exact nw_program | exact nw_unsupported _ | exact nw_getObj _ | exact nw_noView _ | exact nw_stuck _ | (refine Nw_bind ?_ fun _ => ?_) | split | (intro _) | dsimp only)
theorem nw_fieldPlace (a : Addr) (f : Field) : Nw (fieldPlace a f) := by
  unfold fieldPlace
  refine Nw_bind (nw_sizeOf _) fun s => ?_
  split
  · unfold partAt
    exact Nw_bind (nw_byteOf _) fun _ => Nw_bind (nw_byteOf _) fun _ => trivial
  · trivial
theorem nw_fieldAt (t : TypeId) (v : Value) (f : Nat) : Nw (Instr.fieldAt t v f) := by
  unfold Instr.fieldAt
  refine Nw_bind (nw_underlying t) fun d => ?_
  split
  · split
    · exact Nw_bind (nw_sureAddr v) fun a => Nw_bind (nw_fieldPlace a _) fun _ => trivial
    · trivial
  · trivial
theorem nw_field (t : TypeId) (v : Value) (f : Nat) : Nw (Instr.field t v f) := by
  unfold Instr.field
  refine Nw_bind (nw_underlying t) fun d => ?_
  split
  · split
    · exact Nw_bind (nw_asAgg v) fun a => nw_part _ _ _
    · trivial
  · trivial
theorem nw_extract (v : Value) (i : Nat) : Nw (Instr.extract v i) := by unfold Instr.extract; split <;> (try split) <;> trivial
theorem nw_len (ts : Array TypeId) (t : TypeId) (vs : Array Value) : Nw (Builtin.len_ ts t vs) := by
  unfold Builtin.len_
  split
  · refine Nw_bind (nw_underlying _) fun d => ?_
    split <;> first
      | trivial
      | (refine Nw_bind (nw_underlying _) fun d => ?_; split <;> trivial)
      | (refine Nw_bind (nw_getObj _) fun d => ?_; split <;> trivial)
  · trivial
theorem nw_indexAt (t : TypeId) (x i : Value) : Nw (Instr.indexAt t x i) := by
  unfold Instr.indexAt
  refine Nw_bind (nw_asIntOf i) fun p => ?_
  obtain ⟨k, i⟩ := p
  dsimp only
  repeat' (first | trivial | exact nw_underlying _ | exact nw_sizeOf _ | exact nw_boundsPanic _ _ _ _ | exact nw_sureAddr _ | exact nw_unsupported _ | exact nw_stuck _ | (refine Nw_bind ?_ fun _ => ?_) | split)
end

section
theorem nw_forInL {α β : Type} {f : α → β → Sem (ForInStep β)} (h : ∀ a b, Nw (f a b)) : ∀ (l : List α) (b : β), Nw (forIn l b f)
  | [], _ => by simp only [List.forIn_nil]; trivial
  | a :: l, b => by
    rw [List.forIn_cons]
    refine Nw_bind (h a b) fun r => ?_
    cases r
    · trivial
    · exact nw_forInL h l _
theorem nw_forInA {α β : Type} {f : α → β → Sem (ForInStep β)} (h : ∀ a b, Nw (f a b)) (l : Array α) (b : β) : Nw (forIn l b f) := by
  rw [← Array.forIn_toList]; exact nw_forInL h _ _
theorem nw_forInR {β : Type} {f : Nat → β → Sem (ForInStep β)} (h : ∀ a b, Nw (f a b)) (r : Std.Legacy.Range) (b : β) : Nw (forIn r b f) := by
  rw [Std.Legacy.Range.forIn_eq_forIn_range']; exact nw_forInL h _ _
theorem nw_behindNumber (a : Addr) : Nw (behindNumber a) := by unfold behindNumber; exact Nw_bind (nw_numberAt _) fun _ => trivial
theorem nw_typeStr (t : TypeId) : Nw (typeStr t) := by unfold typeStr; refine Nw_bind (nw_typeInfo _) fun _ => ?_; dsimp only; split <;> trivial
theorem nw_equalIn : ∀ (d : Nat) (t : TypeId) (x y : Value), Nw (Op.equalIn d t x y)
  | 0, _, _, _ => trivial
  | d + 1, t, x, y => by
    unfold Op.equalIn
    refine Nw_bind (nw_underlying t) fun u => ?_
    repeat' (first | trivial | exact nw_underlying _ | exact nw_sizeOf _ | exact nw_typeInfo _ | exact nw_typeStr _ | exact nw_program | exact nw_choose _ | exact nw_sameAddr _ _ | exact nw_samePointer _ _ | exact nw_behindNumber _ | exact nw_byteOf _ | exact nw_part _ _ _ | exact nw_runtimePanic _ | exact nw_unsupported _ | exact nw_stuck _ | exact nw_equalIn d _ _ _ | (refine Nw_bind ?_ fun _ => ?_) | (refine nw_forInA (fun _ _ => ?_) _ _) | (refine nw_forInR (fun _ _ => ?_) _ _) | split | dsimp only)
theorem nw_eqGuardIn : ∀ (d : Nat) (t : TypeId) (x y : Value), Nw (Op.eqGuardIn d t x y)
  | 0, _, _, _ => trivial
  | d + 1, t, x, y => by
    unfold Op.eqGuardIn
    refine Nw_bind (nw_underlying t) fun u => ?_
    repeat' (first | trivial | exact nw_underlying _ | exact nw_sizeOf _ | exact nw_typeInfo _ | exact nw_program | exact nw_part _ _ _ | exact nw_unsupported _ | exact nw_stuck _ | exact nw_eqGuardIn d _ _ _ | (refine Nw_bind ?_ fun _ => ?_) | (refine nw_forInA (fun _ _ => ?_) _ _) | (refine nw_forInR (fun _ _ => ?_) _ _) | split | dsimp only)
theorem nw_eqGuard (op : BinOp) (t : TypeId) (x y : Operand) (a b : Value) : Nw (eqGuard op t x y a b) := by
  unfold eqGuard
  repeat' (first | trivial | exact nw_program | exact nw_unsupported _ | exact nw_eqGuardIn _ _ _ _ | (refine Nw_bind ?_ fun _ => ?_) | split | dsimp only)
/-- Comparing for equality; or of whole numbers. -/
theorem nw_binOp (op : BinOp) (t : TypeId) (x y : Value) (h : op = .eql ∨ op = .neq ∨ ((∃ k n, x = .int k n) ∧ ∃ k n, y = .int k n)) : Nw (binOp op t x y) := by
  have hi : ∀ k a k' b, Nw (binOp op t (.int k a) (.int k' b)) := fun k a k' b => by
    unfold binOp
    repeat' (first | trivial | exact nw_shift _ _ _ _ _ | exact nw_intArith _ _ _ _ | exact nw_intDiv _ _ _ _ | exact nw_intBits _ _ _ _ | exact nw_intCmp _ _ _ | split)
  rcases h with rfl | rfl | ⟨⟨k, n, rfl⟩, k', n', rfl⟩
  · unfold binOp
    repeat' (first | trivial | exact nw_intCmp _ _ _ | exact nw_equalIn _ _ _ _ | (refine Nw_bind ?_ fun _ => ?_) | (unfold Op.floatCmp; split <;> trivial) | (unfold Op.complexOp; split <;> trivial) | (unfold Op.stringOp; dsimp only; split <;> trivial) | split | contradiction)
  · unfold binOp
    repeat' (first | trivial | exact nw_intCmp _ _ _ | exact nw_equalIn _ _ _ _ | (refine Nw_bind ?_ fun _ => ?_) | (unfold Op.floatCmp; split <;> trivial) | (unfold Op.complexOp; split <;> trivial) | (unfold Op.stringOp; dsimp only; split <;> trivial) | split | contradiction)
  · exact hi _ _ _ _
end
end Go.TX
