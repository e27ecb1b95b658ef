/- make of a slice; rows of cells by a function. -/
import Derived.Test.YtcibnfjpagmdaaaMap
import Derived.Laws.MakeOwn
set_option linter.unusedSimpArgs false
set_option linter.unusedVariables false
namespace Go.TX
open Go.Conc

theorem nw_makeSlice (t : TypeId) (l c : Value) : Nw (Instr.makeSlice t l c) := by
  unfold Instr.makeSlice
  refine Nw_bind (nw_underlying t) fun d => ?_
  split
  · refine Nw_bind (nw_asInt _) fun l => Nw_bind (nw_asInt _) fun c => Nw_bind (nw_typeInfo _) fun i => ?_
    have tail : ∀ (elem : TypeId) (l c : Int) (i : TypeInfo), Nw (do
        askRoom (c.toNat * i.bytes)
        let n := c.toNat * (← Go.sizeOf elem)
        let zero ← if n = 0 then pure #[] else do pure (← zeroValue elem).cells
        let a ← newRow elem ((Array.range n).map (zero[· % zero.size]!))
        pure (.slice (some a) l.toNat c.toNat) : Sem Value) := fun elem l c i => by
      refine Nw_bind (nw_askRoom _) fun _ => ?_
      refine Nw_bind (nw_sizeOf _) fun _ => ?_
      dsimp only
      split
      · refine Nw_bind trivial fun _ => ?_
        exact Nw_bind (nw_newRow _ _) fun _ => trivial
      · refine Nw_bind (nw_zeroValue _) fun _ => Nw_bind trivial fun _ => ?_
        exact Nw_bind (nw_newRow _ _) fun _ => trivial
    dsimp only
    split
    · split
      · exact Nw_bind (nw_runtimePanic _) fun _ => tail _ _ _ _
      · split
        · exact Nw_bind (nw_runtimePanic _) fun _ => tail _ _ _ _
        · exact Nw_bind (nw_choose _) fun _ => Nw_bind (nw_runtimePanic _) fun _ => tail _ _ _ _
    · exact tail _ _ _ _
  · exact nw_stuck _

section
variable {P : Program} {J : Judge P} {σ : Cfg} {w : World} {b : Frame} {a : Act} {k : List Item} {cs : List Frame} {ops : Array Oper} {i : Nat} {rest : List Nat} {o : Oper}
theorem y_makeSlice {t e : TypeId} {x y : Operand} {n : Nat} {ti : TypeInfo} {z : Value} (ho : ops[i]? = some o) (hw : Region.wanted o (yielded ops a.tmps) = true) (hk : (b.kind == CallKind.early) = false) (hop : o.op = .makeSlice t x y) (hx : a.eval x = .int .i64 n) (hy : a.eval y = .int .i64 n)
    (ht : P.underlying t = some (.slice e)) (hi : P.info? e = some ti) (hz : ti.zero = some z) (hb : ti.bytes * n ≤ 281474976710656) (h63 : n ≤ maxLen)
    (h : J.Y σ (G (b.at (a.put o.dst (.slice (some ⟨w.heap.size, 0, none⟩) n n)) (.inRegion ops rest :: k)) cs) (w.alloc (.cells (madeCells z.cells (n * ti.size)) e))) : J.Y σ (G (b.at a (.inRegion ops (i :: rest) :: k)) cs) w := by
  refine y_nw ho hw hk ?_ fun d _ K hK => ?_
  · unfold execOp
    simp only [hop]
    exact Nw_bind (nw_makeSlice _ _ _) fun _ => trivial
  · have hr := run_make (P := P) (w.at d) t e ti z ht hi hz .i64 .i64 n n (by omega) (Int.le_refl _) (by rw [← Int.natCast_mul]; omega) (by simp [maxLen] at h63; omega)
    simp only [Int.toNat_natCast] at hr
    unfold execOp
    simp only [hop, hx, hy, Sem.run_bind, hr, Result.andThen_ok, Sem.run_pure]
    exact hK (.act (a.put o.dst (.slice (some ⟨w.heap.size, 0, none⟩) n n))) (w.alloc (.cells (madeCells z.cells (n * ti.size)) e)) d h
end

/-- A block of n cells, by a function. -/
def Row (w : World) (b : Nat) (e : TypeId) (n : Nat) (f : Nat → Value) : Prop := w.heap[b]? = some (.cells ((List.range n).map f).toArray e)
theorem Row.get {w : World} {b n : Nat} {e : TypeId} {f : Nat → Value} (h : Row w b e n f) {x : Nat} (hx : x < n) : w.cell? ⟨b, x, none⟩ = some (f x) := by
  unfold World.cell?
  rw [h]
  simp [hx]
theorem Row.later {w w' : World} {b n : Nat} {e : TypeId} {f : Nat → Value} (h : Row w b e n f) (hs : w'.heap[b]? = w.heap[b]?) : Row w' b e n f := hs.trans h
theorem Row.lt {w : World} {b n : Nat} {e : TypeId} {f : Nat → Value} (h : Row w b e n f) : b < w.heap.size := lt_of_get h
theorem row_put {n x : Nat} {f : Nat → Value} (v : Value) : (((List.range n).map f).toArray.setIfInBounds x v) = ((List.range n).map (setAt f x v)).toArray := by
  simp only [List.setIfInBounds_toArray]
  congr 1
  apply List.ext_getElem?
  intro i
  by_cases e : x = i
  · subst e
    by_cases hi : x < n
    · rw [List.getElem?_set_self (by simpa using hi)]; simp [hi]
    · rw [List.getElem?_eq_none (by simp; omega), List.getElem?_eq_none (by simp; omega)]
  · rw [List.getElem?_set_ne e]
    by_cases hi : i < n
    · simp [hi, setAt_ne _ _ (Ne.symm e)]
    · rw [List.getElem?_eq_none (by simp; omega), List.getElem?_eq_none (by simp; omega)]
theorem row_made {w : World} {n : Nat} {e : TypeId} {z : Value} {s : Nat} (hc : z.cells = #[z]) (hs : s = 1) : Row (w.alloc (.cells (madeCells z.cells (n * s)) e)) w.heap.size e n fun _ => z := by
  subst hs
  have : madeCells z.cells (n * 1) = ((List.range n).map fun _ => z).toArray := by
    unfold madeCells
    rw [hc]
    apply Array.ext
    · simp
    · intro i h1 h2; simp [Nat.mod_one]
  rw [this]
  unfold Row
  unfold World.alloc
  simp
end Go.TX
