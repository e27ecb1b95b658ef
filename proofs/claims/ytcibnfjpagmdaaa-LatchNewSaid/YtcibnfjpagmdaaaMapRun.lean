/- The numbers of cells: a map from their atomic numbers. -/
import Derived.Test.YtcibnfjpagmdaaaStands
import Derived.Test.YtcibnfjpagmdaaaMap
import Derived.LaidEql
set_option linter.unusedSimpArgs false
set_option linter.unusedVariables false
set_option maxRecDepth 100000
namespace Go.Proofs.Ytcibnfjpagmdaaa
open Go.TX Go.Conc Go.RowKit Go.MapKept
variable {w : World}

theorem info_num : ∃ j, Try.prog.info? 72 = some j ∧ j.size ≠ 0 := by
  have h : (Try.prog.info? 72).map (fun i => decide (i.size = 0)) = some false := by kernel_rfl
  obtain ⟨j, h1, h2⟩ := Option.map_eq_some_iff.1 h
  exact ⟨j, h1, by simpa using h2⟩

theorem equal_nums {a b : Nat} {u v : Int} (ha : CellIs w a u) (hb : CellIs w b v) : (Op.equal 203 (.pointer (some ⟨a, 0, none⟩)) (.pointer (some ⟨b, 0, none⟩))).run Try.prog w = .ok (decide (a = b)) w := by
  obtain ⟨j, h1, h2⟩ := info_num
  have h : (sameAddr ⟨a, 0, none⟩ ⟨b, 0, none⟩).run Try.prog w = .ok (decide (a = b)) w := by
    by_cases e : a = b
    · subst e; rw [run_sameAddr_same]; simp
    · rw [run_sameAddr_other (P := Try.prog) w (a := ⟨a, 0, none⟩) (b := ⟨b, 0, none⟩) (by simp [e]) ha hb]; simp [e]
  have h3 : ∀ x : Nat, (Op.equalIn (x + 1) 203 (.pointer (some ⟨a, 0, none⟩)) (.pointer (some ⟨b, 0, none⟩))).run Try.prog w = .ok (decide (a = b)) w := fun x => by
    simp [Op.equalIn, run_underlying Try.underlying203, sizeOf, typeInfo, h1, h2, h]
  exact h3 9999

def entryOf (x : Nat × Nat) : MapEntry := { key := .pointer (some ⟨x.1, 0, none⟩), val := .int .i64 x.2, born := x.2 }
theorem run_ask {c : Nat} {u : Int} (hc : CellIs w c u) : ∀ (cn : List Nat) (k0 i0 : Nat), (∀ x ∈ cn, ∃ v, CellIs w x v) →
    (Instr.findAsking 203 (.pointer (some ⟨c, 0, none⟩)) ((cn.zipIdx k0).map entryOf) i0).run Try.prog w = .ok (if c ∈ cn then some (i0 + cn.idxOf c, .int .i64 ((k0 + cn.idxOf c : Nat) : Int)) else none) w
  | [], k0, i0, _ => by simp [Instr.findAsking]
  | x :: cn, k0, i0, h => by
    obtain ⟨v, hv⟩ := h x (by simp)
    have ih := run_ask hc cn (k0 + 1) (i0 + 1) fun y hy => h y (by simp [hy])
    simp only [List.zipIdx_cons, List.map_cons, Instr.findAsking, Sem.run_bind, entryOf, equal_nums hc hv, Result.andThen_ok]
    by_cases e : c = x
    · subst e; simp [entryOf]
    · have e' : ¬ x = c := fun h => e h.symm
      simp only [e, decide_false, Bool.false_eq_true, if_false]
      rw [ih]
      have hidx : List.idxOf c (x :: cn) = List.idxOf c cn + 1 := by
        have h2 : (x == c) = false := by simpa using e'
        rw [List.idxOf_cons, h2]; rfl
      by_cases hmem : c ∈ cn
      · simp [hmem, hidx]; omega
      · simp [hmem, e]

theorem run_find {c : Nat} {u : Int} (hc : CellIs w c u) (cn : List Nat) (h : ∀ x ∈ cn, ∃ v, CellIs w x v) :
    (Instr.findKey 203 (.pointer (some ⟨c, 0, none⟩)) (entriesOf cn).toList).run Try.prog w = .ok (if c ∈ cn then some (cn.idxOf c, .int .i64 (cn.idxOf c : Int)) else none) w := by
  have he : (entriesOf cn).toList = (cn.zipIdx 0).map entryOf := rfl
  rw [he]
  unfold Instr.findKey
  simp only [Sem.run_bind, run_underlying Try.underlying203, Result.andThen_ok]
  cases cn with
  | nil => simp [Instr.findNow]
  | cons x cn =>
    have := run_ask hc (x :: cn) 0 0 h
    simp only [Nat.zero_add] at this
    simpa [Instr.findNow, Instr.sameNow, List.zipIdx_cons, entryOf] using this

theorem run_key (b : Bool) (x : Option Addr) (n : Nat) : (Instr.checkKey b (n + 1) 203 (.pointer x)).run Try.prog w = .ok () w := by
  simp [Instr.checkKey, run_underlying Try.underlying203]

theorem run_lookupN {c mb : Nat} {u : Int} {cn : List Nat} (hc : CellIs w c u) (h : ∀ x ∈ cn, ∃ v, CellIs w x v) (hm : w.heap[mb]? = some (.map (entriesOf cn) cn.length)) :
    (Instr.lookup 197 (.map (some mb)) (.pointer (some ⟨c, 0, none⟩)) true).run Try.prog w = .ok (.tuple #[.int .i64 (if c ∈ cn then (cn.idxOf c : Int) else 0), .bool (decide (c ∈ cn))]) w := by
  unfold Instr.lookup
  have hz : (zeroValue 3).run Try.prog w = .ok (.int .i64 0) w := by simp [Try.zeroValue3]
  have hg : (getObj mb).run Try.prog w = .ok (.map (entriesOf cn) cn.length) w := MapKept.run_getObj_map hm
  simp only [Sem.run_bind, run_underlying Try.underlying197, Result.andThen_ok, hg, run_find hc cn h, run_key]
  have hf := run_find hc cn h
  by_cases e : c ∈ cn
  · simp only [e, if_true] at hf ⊢; simp [hf]
  · simp only [e, if_false] at hf ⊢; simp [hf, hz]

theorem entries_snoc (cn : List Nat) (c : Nat) : (entriesOf cn).push { key := .pointer (some ⟨c, 0, none⟩), val := .int .i64 (cn.length : Int), born := cn.length } = entriesOf (cn ++ [c]) := by
  unfold entriesOf
  rw [List.zipIdx_append]
  simp
theorem entries_size (cn : List Nat) : (entriesOf cn).size = cn.length := by simp [entriesOf]
theorem run_mapUpdateN {c mb : Nat} {u : Int} {cn : List Nat} (hc : CellIs w c u) (h : ∀ x ∈ cn, ∃ v, CellIs w x v) (hm : w.heap[mb]? = some (.map (entriesOf cn) cn.length)) (hn : c ∉ cn) :
    (Instr.mapUpdate 197 (.map (some mb)) (.pointer (some ⟨c, 0, none⟩)) (.int .i64 (cn.length : Int))).run Try.prog w = .ok () { w with heap := w.heap.setIfInBounds mb (.map (entriesOf (cn ++ [c])) (cn ++ [c]).length) } := by
  unfold Instr.mapUpdate
  have hg : (getObj mb).run Try.prog w = .ok (.map (entriesOf cn) cn.length) w := MapKept.run_getObj_map hm
  simp only [Sem.run_bind, run_underlying Try.underlying197, Result.andThen_ok, hg, run_find hc cn h, run_key, hn, if_false]
  rw [← entries_snoc]
  simp [MapKept.run_setObj_map _ hm]
end Go.Proofs.Ytcibnfjpagmdaaa
