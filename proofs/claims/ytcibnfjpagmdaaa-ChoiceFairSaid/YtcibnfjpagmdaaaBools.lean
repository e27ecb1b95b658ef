/- A slice of bools as an argument, read again. -/
import Derived.Test.YtcibnfjpagmdaaaPost
import Derived.ChangeSlices
import Derived.Deep.Grids
set_option linter.unusedSimpArgs false
set_option linter.unusedVariables false
namespace Go.TX
open Go.RowKit Go.WideShapes Go.ChangeShapes Go.Deep

section
variable {H : Type} {enc : TypeId × Value → H} {P : Program} {w : World} {base : Nat} {spare : Nat → Bool} {held : Bool}
theorem shut_boolrow {t e : TypeId} {a : Addr} {len cap : Nat} {B : Nat → Bool} (ht : P.underlying t = some (.slice e)) (he : P.underlying e = some .bool) (hc : P.cellsOf e = 1)
    (hb : base ≤ a.block) (hl : len ≤ cap) (hm : cap ≤ maxLen) (hs : 0 < cap → spare a.block = true) (hcell : ∀ i, i < cap → w.cell? (a.add i) = some (.bool (B i))) :
    DataW.trod enc P w base spare held 2 t [.slice (some a) len cap] = some (boolRow (some a) len cap B, MemPlace.row a cap) := by
  have one : ∀ i, i < cap → (w.cells? base (a.add (i * P.cellsOf e)) (P.cellsOf e)).bind (DataW.trod enc P w base spare held 1 e) = some ((.lit (.bool (B i)), []) : DataW H × List MemPlace) := by
    intro i hi
    rw [hc, Nat.mul_one, cells?_one (by rw [block_add]; exact hb) (hcell i hi)]
    simp [DataW.trod, he]
  rw [DataW.trod_step]
  unfold DataW.trodStep
  simp only [ht]
  rw [if_pos ⟨hb, hl, hm⟩, mapM_range_of len (fun i hi => one i (by omega))]
  simp only [Option.bind_some]
  cases h : spare a.block with
  | false =>
    have h0 : cap = 0 := by
      rcases Nat.eq_zero_or_pos cap with h1 | h1
      · exact h1
      · rw [hs h1] at h; cases h
    subst h0
    obtain rfl : len = 0 := by omega
    simp [boolRow, MemPlace.row]
  | true =>
    simp only [if_true]
    rw [mapM_range_of (cap - len) (fun j hj => one (len + j) (by omega))]
    have z : ∀ (f : Nat → Bool) (n : Nat), List.flatMap (fun x => x.2) ((List.range n).map fun i => ((.lit (.bool (f i)), []) : DataW H × List MemPlace)) = [] := fun f n =>
      List.flatMap_eq_nil_iff.2 fun x hx => by
        obtain ⟨i, _, rfl⟩ := List.mem_map.1 hx
        rfl
    simp [boolRow, hc, Function.comp_def, show len + (cap - len) = cap by omega]
theorem shut_nilrow {t e : TypeId} (ht : P.underlying t = some (.slice e)) : DataW.trod enc P w base spare held 1 t [.slice none 0 0] = some (.nil, []) := by
  simp [DataW.trod, ht]
end
end Go.TX
