/- law 21's works: two pipes, taken in turns. -/
import Derived.Test.YtcibnfjpagmdaaaWk
set_option linter.unusedSimpArgs false
set_option linter.unusedVariables false
set_option maxRecDepth 100000
set_option maxHeartbeats 4000000
namespace Go.Proofs.Ytcibnfjpagmdaaa
open Go.TX Go.Conc Go.RowKit Go.MapKept
variable {J : Judge Try.prog} {σ : Cfg} {w : World}

theorem pow2_2 : Pow2 2 := ⟨1, by decide, by decide, rfl⟩
theorem PQ.grew {w' : World} {S : Shape} {o : Nat} {q : List Int} {cl : Bool} (h : PQ w S o q cl) (g : ∀ k, k < w.heap.size → w'.heap[k]? = w.heap[k]?) : PQ w' S o q cl := by
  have hn := h.pow.le
  exact h.later (g _ (lt_of_cell h.laid.p0)) (g _ (lt_of_cell (h.laid.lt 0 (by omega)))) fun b hb => by obtain ⟨v, hv⟩ := h.cellIs hb; exact g _ hv.lt
theorem shape_cell {p bell n pl cap : Nat} {c : Nat → Nat} {b : Nat} (h : (shape p bell n pl cap c).cell b) : ∃ x, x < 2 + 2 * n ∧ b = c x := by
  rcases h with rfl | rfl | ⟨j, hj, rfl⟩ | ⟨j, hj, rfl⟩
  · exact ⟨0, by omega, rfl⟩
  · exact ⟨1, by omega, rfl⟩
  · have hj : j < n := hj; exact ⟨2 + 2 * j, by omega, rfl⟩
  · have hj : j < n := hj; exact ⟨3 + 2 * j, by omega, rfl⟩

theorem ChIs.only {w' : World} {ch bell tk n x : Nat} {k d : Int} {S : Nat → Shape} {o : Nat → Nat} {q : Nat → List Int} (C : ChIs w ch bell tk k) (F : Fam w bell d n S o q) (hx : x < n) (O : OnlyCells w w' (S x)) (h1 : tk ≠ bell) (h2 : ¬ (S x).cell tk) : ChIs w' ch bell tk k := by
  obtain ⟨hP, hb⟩ := F.pq x hx
  have hne : ∀ b u, CellIs w b u → ch ≠ b := fun b u h e => by subst e; have := h.symm.trans C.obj; simp at this
  exact ⟨(O.other ch (fun h => by obtain ⟨u, hu⟩ := hP.cellIs h; exact hne _ _ hu rfl) (by rw [hb]; exact hne _ _ F.isBell)).trans C.obj, C.tick.later (O.other tk h2 (by rw [hb]; exact h1))⟩

theorem works21 (hf : ∀ b, σ.Free (· = b)) : CallsX J 48 #[] σ w fun r σ' w' => r = .bool true ∧ σ' = σ ∧ Grew w w' := by
  refine callsX_body Try.func48 rfl fun c cs H HN => ?_
  simp only [Try.f48, Try.ntmps48, List.size_toArray, List.length_cons, List.length_nil, Nat.reduceAdd, Nat.reduceSub, Nat.zero_add, Array.replicate_succ, Array.replicate_zero, List.push_toArray, List.append_toArray, List.nil_append, List.cons_append, List.append_nil]
  clear HN
  replace H := Keep.mk H
  replace hf := Keep.mk hf
  repeat (first
    | refine y_seq ?_
    | (refine y_region ?_; simp only [List.size_toArray, List.length_cons, List.length_nil, Nat.reduceAdd, Nat.zero_add, List.range, List.range.loop])
    | refine y_regionEnd ?_
    | (refine y_nw rfl (by rfl) rfl (by first | exact nx_of rfl | exact nx_nil rfl rfl | exact nx_int rfl rfl rfl) (fun dd hS K hK => ?_); go_simp; refine hK _ _ _ ?_; clear hK K hS dd; simp only [recOf]; try walk_nrm)
    | (refine y_unwanted rfl (by rfl) ?_; try walk_nrm)
    | (refine y_cond true rfl ?_; simp only [if_true])
    | (refine y_cond false rfl ?_; simp only [Bool.false_eq_true, if_false])
    | refine y_skip ?_ | refine y_block ?_ | refine y_inBlock ?_ | refine y_label ?_ | refine y_exit rfl ?_ | refine y_ret ?_ | refine y_end ?_ | refine y_scope ?_ | refine y_inScope ?_)
  refine y_callR rfl (by rfl) rfl rfl Try.func26 (by kernel_rfl) (by kernel_rfl) (new1 0) (by simp only [List.map_toArray, List.map_cons, List.map_nil] <;> rfl) ?_
  rintro _ σ'' w1 ⟨rfl, e2, N1⟩
  rw [e2]
  clear e2 σ''
  walk_nrm
  replace N1 := Keep.mk N1
  repeat (first
    | refine y_seq ?_
    | (refine y_region ?_; simp only [List.size_toArray, List.length_cons, List.length_nil, Nat.reduceAdd, Nat.zero_add, List.range, List.range.loop])
    | refine y_regionEnd ?_
    | (refine y_nw rfl (by rfl) rfl (by first | exact nx_of rfl | exact nx_nil rfl rfl | exact nx_int rfl rfl rfl) (fun dd hS K hK => ?_); go_simp; refine hK _ _ _ ?_; clear hK K hS dd; simp only [recOf]; try walk_nrm)
    | (refine y_unwanted rfl (by rfl) ?_; try walk_nrm)
    | (refine y_cond true rfl ?_; simp only [if_true])
    | (refine y_cond false rfl ?_; simp only [Bool.false_eq_true, if_false])
    | refine y_skip ?_ | refine y_block ?_ | refine y_inBlock ?_ | refine y_label ?_ | refine y_exit rfl ?_ | refine y_ret ?_ | refine y_end ?_ | refine y_scope ?_ | refine y_inScope ?_)
  refine y_callR rfl (by rfl) rfl rfl Try.func45 (by kernel_rfl) (by kernel_rfl) (pipe_new_bell 2 ⟨w.heap.size, 0, none⟩ (by decide) (by decide) pow2_2.self) (by simp only [List.map_toArray, List.map_cons, List.map_nil] <;> rfl) ?_
  rintro r σ'' w2 ⟨e2, p1, c1, sv1, rfl, M1⟩
  rw [e2]; clear e2 σ''
  replace M1 := Keep.mk M1
  walk_nrm
  repeat (first
    | refine y_seq ?_
    | (refine y_region ?_; simp only [List.size_toArray, List.length_cons, List.length_nil, Nat.reduceAdd, Nat.zero_add, List.range, List.range.loop])
    | refine y_regionEnd ?_
    | (refine y_nw rfl (by rfl) rfl (by first | exact nx_of rfl | exact nx_nil rfl rfl | exact nx_int rfl rfl rfl) (fun dd hS K hK => ?_); go_simp; refine hK _ _ _ ?_; clear hK K hS dd; simp only [recOf]; try walk_nrm)
    | (refine y_unwanted rfl (by rfl) ?_; try walk_nrm)
    | (refine y_cond true rfl ?_; simp only [if_true])
    | (refine y_cond false rfl ?_; simp only [Bool.false_eq_true, if_false])
    | refine y_skip ?_ | refine y_block ?_ | refine y_inBlock ?_ | refine y_label ?_ | refine y_exit rfl ?_ | refine y_ret ?_ | refine y_end ?_ | refine y_scope ?_ | refine y_inScope ?_)
  refine y_callR rfl (by rfl) rfl rfl Try.func45 (by kernel_rfl) (by kernel_rfl) (pipe_new_bell 2 ⟨w.heap.size, 0, none⟩ (by decide) (by decide) pow2_2.self) (by simp only [List.map_toArray, List.map_cons, List.map_nil] <;> rfl) ?_
  rintro r σ'' w3 ⟨e2, p2, c2, sv2, rfl, M2⟩
  rw [e2]; clear e2 σ''
  replace M2 := Keep.mk M2
  walk_nrm
  repeat (first
    | refine y_seq ?_
    | (refine y_region ?_; simp only [List.size_toArray, List.length_cons, List.length_nil, Nat.reduceAdd, Nat.zero_add, List.range, List.range.loop])
    | refine y_regionEnd ?_
    | (refine y_nw rfl (by rfl) rfl (by first | exact nx_of rfl | exact nx_nil rfl rfl | exact nx_int rfl rfl rfl) (fun dd hS K hK => ?_); go_simp; refine hK _ _ _ ?_; clear hK K hS dd; simp only [recOf]; try walk_nrm)
    | (refine y_unwanted rfl (by rfl) ?_; try walk_nrm)
    | (refine y_cond true rfl ?_; simp only [if_true])
    | (refine y_cond false rfl ?_; simp only [Bool.false_eq_true, if_false])
    | refine y_skip ?_ | refine y_block ?_ | refine y_inBlock ?_ | refine y_label ?_ | refine y_exit rfl ?_ | refine y_ret ?_ | refine y_end ?_ | refine y_scope ?_ | refine y_inScope ?_)
  refine y_callR rfl (by rfl) rfl rfl Try.func44 (by kernel_rfl) (by kernel_rfl) (choice_new w.heap.size) (by simp only [List.map_toArray, List.map_cons, List.map_nil] <;> rfl) ?_
  rintro r σ'' w4 ⟨rfl, e2, C, g4, z4⟩
  rw [e2]; clear e2 σ''
  walk_nrm
  replace N1 := Keep.out N1
  replace M1 := Keep.out M1
  replace M2 := Keep.out M2
  replace hf := Keep.out hf
  have z1 := N1.size
  have s2 := M1.size
  have s3 := M2.size
  have b2 : CellIs w2 w.heap.size 0 := M1.kept _ _ N1.is
  have b3 : CellIs w3 w.heap.size 0 := M2.kept _ _ b2
  obtain ⟨pl1, cap1, Q1, _⟩ := made_pq M1 pow2_2 b2 fun x hx => by have := M1.new x hx; omega
  obtain ⟨pl2, cap2, Q2, _⟩ := made_pq M2 pow2_2 b3 fun x hx => by have := M2.new x hx; omega
  obtain ⟨S, hnew, hS0, hS1, hn0, hn1, F, htk⟩ : ∃ S : Nat → Shape, (∀ x, x < 2 → ∀ b, (S x).cell b → w.heap.size < b) ∧ (S 0).p = p1 ∧ (S 1).p = p2 ∧ (S 0).n = 2 ∧ (S 1).n = 2 ∧ Fam w4 w.heap.size 0 2 S (fun _ => 0) (fun _ => []) ∧ w3.heap.size ≠ w.heap.size ∧ ∀ x, x < 2 → ¬ (S x).cell w3.heap.size := by
    refine ⟨fun x => if x = 0 then shape p1 w.heap.size 2 pl1 cap1 c1 else shape p2 w.heap.size 2 pl2 cap2 c2, fun x hx b hb => ?_, rfl, rfl, rfl, rfl, ⟨b3.later (g4.old _ b3.lt), fun x hx => ?_, fun x y hx hy hne b hb => ?_⟩, by omega, fun x hx hc => ?_⟩
    · have : x = 0 ∨ x = 1 := by omega
      rcases this with rfl | rfl
      · obtain ⟨i, hi, rfl⟩ := shape_cell hb
        have := M1.new i hi; omega
      · obtain ⟨i, hi, rfl⟩ := shape_cell hb
        have := M2.new i hi; omega
    · have : x = 0 ∨ x = 1 := by omega
      rcases this with rfl | rfl
      · exact ⟨(Q1.grew M2.old).grew g4.old, rfl⟩
      · exact ⟨Q2.grew g4.old, rfl⟩
    · have hx : x = 0 ∨ x = 1 := by omega
      have hy : y = 0 ∨ y = 1 := by omega
      rcases hx with rfl | rfl <;> rcases hy with rfl | rfl
      · exact absurd rfl hne
      · intro hc
        obtain ⟨i, hi, rfl⟩ := shape_cell hb
        obtain ⟨j, hj, e⟩ := shape_cell hc
        have h1 := (M1.is i hi).lt
        have h2 := M2.new j hj
        omega
      · intro hc
        obtain ⟨i, hi, rfl⟩ := shape_cell hb
        obtain ⟨j, hj, e⟩ := shape_cell hc
        have h1 := (M1.is j hj).lt
        have h2 := M2.new i hi
        omega
      · exact absurd rfl hne
    · have : x = 0 ∨ x = 1 := by omega
      rcases this with rfl | rfl
      · obtain ⟨i, hi, e⟩ := shape_cell hc
        have := (M1.is i hi).lt; omega
      · obtain ⟨i, hi, e⟩ := shape_cell hc
        have := (M2.is i hi).lt; omega
  have g04 : Grew w w4 := ((((Grew.refl w).trans ⟨by omega, N1.old⟩).trans ⟨M1.size, M1.old⟩).trans ⟨M2.size, M2.old⟩).trans g4
  have gw3 : Keep (w.heap.size < w3.heap.size) := Keep.mk (by omega)
  clear Q1 Q2 M1 M2 N1 b2 b3 s2 s3 z1 g4
  replace F := Keep.mk F
  replace htk := Keep.mk htk
  replace C := Keep.mk C
  replace g04 := Keep.mk g04
  replace hS0 := Keep.mk hS0
  replace hS1 := Keep.mk hS1
  replace hn0 := Keep.mk hn0
  replace hn1 := Keep.mk hn1
  replace hf := Keep.mk hf
  replace z4 := Keep.mk z4
  replace hnew := Keep.mk hnew
  repeat (first
    | refine y_seq ?_
    | (refine y_region ?_; simp only [List.size_toArray, List.length_cons, List.length_nil, Nat.reduceAdd, Nat.zero_add, List.range, List.range.loop])
    | refine y_regionEnd ?_
    | (refine y_nw rfl (by rfl) rfl (by first | exact nx_of rfl | exact nx_nil rfl rfl | exact nx_int rfl rfl rfl) (fun dd hS K hK => ?_); go_simp; refine hK _ _ _ ?_; clear hK K hS dd; simp only [recOf]; try walk_nrm)
    | (refine y_unwanted rfl (by rfl) ?_; try walk_nrm)
    | (refine y_cond true rfl ?_; simp only [if_true])
    | (refine y_cond false rfl ?_; simp only [Bool.false_eq_true, if_false])
    | refine y_skip ?_ | refine y_block ?_ | refine y_inBlock ?_ | refine y_label ?_ | refine y_exit rfl ?_ | refine y_ret ?_ | refine y_end ?_ | refine y_scope ?_ | refine y_inScope ?_)
  refine y_callR rfl (by rfl) rfl rfl Try.func49 (by kernel_rfl) (by kernel_rfl) (hS0.out ▸ Fam.send (v := 5) F.out (x := 0) (by decide) (by rw [hn0.out]; decide) (by decide) (fun _ => rfl) hf.out) (by simp only [List.map_toArray, List.map_cons, List.map_nil] <;> rfl) ?_
  rintro r σ'' w5 ⟨rfl, e2, F5, O5⟩
  rw [e2]; clear e2 σ''
  replace F5 := Keep.mk F5
  replace O5 := Keep.mk O5
  walk_nrm
  repeat (first
    | refine y_seq ?_
    | (refine y_region ?_; simp only [List.size_toArray, List.length_cons, List.length_nil, Nat.reduceAdd, Nat.zero_add, List.range, List.range.loop])
    | refine y_regionEnd ?_
    | (refine y_nw rfl (by rfl) rfl (by first | exact nx_of rfl | exact nx_nil rfl rfl | exact nx_int rfl rfl rfl) (fun dd hS K hK => ?_); go_simp; refine hK _ _ _ ?_; clear hK K hS dd; simp only [recOf]; try walk_nrm)
    | (refine y_unwanted rfl (by rfl) ?_; try walk_nrm)
    | (refine y_cond true rfl ?_; simp only [if_true])
    | (refine y_cond false rfl ?_; simp only [Bool.false_eq_true, if_false])
    | refine y_skip ?_ | refine y_block ?_ | refine y_inBlock ?_ | refine y_label ?_ | refine y_exit rfl ?_ | refine y_ret ?_ | refine y_end ?_ | refine y_scope ?_ | refine y_inScope ?_)
  refine y_callR rfl (by rfl) rfl rfl Try.func49 (by kernel_rfl) (by kernel_rfl) (hS1.out ▸ Fam.send (v := 6) F5.out (x := 1) (by decide) (by rw [hn1.out]; decide) (by decide) (fun _ => rfl) hf.out) (by simp only [List.map_toArray, List.map_cons, List.map_nil] <;> rfl) ?_
  rintro r σ'' w6 ⟨rfl, e2, F6, O6⟩
  rw [e2]; clear e2 σ''
  replace F6 := Keep.mk F6
  replace O6 := Keep.mk O6
  walk_nrm
  repeat (first
    | refine y_seq ?_
    | (refine y_region ?_; simp only [List.size_toArray, List.length_cons, List.length_nil, Nat.reduceAdd, Nat.zero_add, List.range, List.range.loop])
    | refine y_regionEnd ?_
    | (refine y_nw rfl (by rfl) rfl (by first | exact nx_of rfl | exact nx_nil rfl rfl | exact nx_int rfl rfl rfl) (fun dd hS K hK => ?_); go_simp; refine hK _ _ _ ?_; clear hK K hS dd; simp only [recOf]; try walk_nrm)
    | (refine y_unwanted rfl (by rfl) ?_; try walk_nrm)
    | (refine y_cond true rfl ?_; simp only [if_true])
    | (refine y_cond false rfl ?_; simp only [Bool.false_eq_true, if_false])
    | refine y_skip ?_ | refine y_block ?_ | refine y_inBlock ?_ | refine y_label ?_ | refine y_exit rfl ?_ | refine y_ret ?_ | refine y_end ?_ | refine y_scope ?_ | refine y_inScope ?_)
  replace O5 := Keep.out O5
  replace O6 := Keep.out O6
  replace F5 := Keep.out F5
  replace F6 := Keep.out F6
  replace htk := Keep.out htk
  replace C := Keep.out C
  replace F := Keep.out F
  replace hS0 := Keep.out hS0
  replace hS1 := Keep.out hS1
  have C5 := C.only F (x := 0) (by decide) O5 htk.1 (htk.2 0 (by decide))
  have C6 := C5.only F5 (x := 1) (by decide) O6 htk.1 (htk.2 1 (by decide))
  have N7 := newO w6 (.cells #[.pointer (some ⟨p1, 0, none⟩), .bool false, .int .i64 0, .pointer (some ⟨p2, 0, none⟩), .bool false, .int .i64 0] 92)
  have e7 : ∀ i u, #[Value.pointer (some ⟨p1, 0, none⟩), .bool false, .int .i64 0, .pointer (some ⟨p2, 0, none⟩), .bool false, .int .i64 0][i]? = some u → (w6.alloc (.cells #[.pointer (some ⟨p1, 0, none⟩), .bool false, .int .i64 0, .pointer (some ⟨p2, 0, none⟩), .bool false, .int .i64 0] 92)).cell? ⟨w6.heap.size, i, none⟩ = some u := fun i u h => by
    unfold World.cell?; rw [N7.is]; exact h
  generalize w6.alloc (.cells #[.pointer (some ⟨p1, 0, none⟩), .bool false, .int .i64 0, .pointer (some ⟨p2, 0, none⟩), .bool false, .int .i64 0] 92) = w7 at N7 e7 ⊢
  obtain ⟨d, o, q, hq0, hq1, hsm, F6⟩ : ∃ d o q, q 0 = [5] ∧ q 1 = [6] ∧ (∀ x, x < 2 → o x + (q x).length < 2 ^ 60) ∧ Fam w6 w.heap.size d 2 S o q := ⟨_, _, _, rfl, rfl, fun x hx => by
    have : x = 0 ∨ x = 1 := by omega
    rcases this with rfl | rfl <;> decide, F6⟩
  have W7 : Wk w7 w.heap.size (w3.heap.size + 1) w3.heap.size w6.heap.size 2 2 0 d S [(.pointer (some ⟨p1, 0, none⟩), false, 0), (.pointer (some ⟨p2, 0, none⟩), false, 0)] o q := by
    refine ⟨F6.grew N7.old, C6.grew ⟨by rw [N7.size]; omega, N7.old⟩, ⟨by decide, by decide, ⟨fun x c h => ?_, fun x c h => ?_, fun x c h => ?_⟩, rfl, fun x hx => ?_, hsm⟩, htk⟩
    · match x, h with
      | 0, h => cases h; exact e7 0 _ rfl
      | 1, h => cases h; exact e7 3 _ rfl
    · match x, h with
      | 0, h => cases h; exact e7 1 _ rfl
      | 1, h => cases h; exact e7 4 _ rfl
    · match x, h with
      | 0, h => cases h; exact e7 2 _ rfl
      | 1, h => cases h; exact e7 5 _ rfl
    · have : x = 0 ∨ x = 1 := by omega
      rcases this with rfl | rfl
      · exact ⟨0, by rw [hS0]; rfl⟩
      · exact ⟨0, by rw [hS1]; rfl⟩
  have z5 := O5.size
  have z6 := O6.size
  have z7 := N7.size
  replace z4 := Keep.out z4
  replace g04 := Keep.out g04
  have g7 : w.heap.size < w7.heap.size ∧ w4.heap.size ≤ w7.heap.size := by have := g04.size; omega
  -- what was there at the entry stands
  have hold7 : ∀ b, b < w.heap.size → w7.heap[b]? = w.heap[b]? := fun b hb => by
    have hc : ∀ x, x < 2 → ¬ (S x).cell b := fun x hx h => by have := hnew.out x hx b h; omega
    rw [N7.old b (by have := g04.size; omega), O6.other b (hc 1 (by decide)) (by rw [(F5.pq 1 (by decide)).2]; omega), O5.other b (hc 0 (by decide)) (by rw [(F.pq 0 (by decide)).2]; omega), g04.old b hb]
  clear O5 O6 F5 F6 F C C5 C6 N7 e7 z5 z6 z7
  replace z4 := Keep.mk z4
  replace htk := Keep.mk htk
  replace W7 := Keep.mk W7
  replace hold7 := Keep.mk hold7
  replace g7 := Keep.mk g7
  replace hq0 := Keep.mk hq0
  replace hq1 := Keep.mk hq1
  replace g04 := Keep.mk g04
  repeat (first
    | refine y_seq ?_
    | (refine y_region ?_; simp only [List.size_toArray, List.length_cons, List.length_nil, Nat.reduceAdd, Nat.zero_add, List.range, List.range.loop])
    | refine y_regionEnd ?_
    | (refine y_nw rfl (by rfl) rfl (by first | exact nx_of rfl | exact nx_nil rfl rfl | exact nx_int rfl rfl rfl) (fun dd hS K hK => ?_); go_simp; refine hK _ _ _ ?_; clear hK K hS dd; simp only [recOf]; try walk_nrm)
    | (refine y_unwanted rfl (by rfl) ?_; try walk_nrm)
    | (refine y_cond true rfl ?_; simp only [if_true])
    | (refine y_cond false rfl ?_; simp only [Bool.false_eq_true, if_false])
    | refine y_skip ?_ | refine y_block ?_ | refine y_inBlock ?_ | refine y_label ?_ | refine y_exit rfl ?_ | refine y_ret ?_ | refine y_end ?_ | refine y_scope ?_ | refine y_inScope ?_)
  refine y_callR rfl (by rfl) rfl rfl Try.func46 (by kernel_rfl) (by kernel_rfl) (W7.out.select (t := .pointer none) (fun _ => rfl) (by decide) ⟨0, by decide, by rw [hq0.out]; simp⟩ hf.out) (by simp only [List.map_toArray, List.map_cons, List.map_nil] <;> rfl) ?_
  rintro r σ'' w8 ⟨e2, z8, hold8, y, v, qs, hy, hqy, ⟨j, hj, hyj, hno⟩, rfl, W8⟩
  rw [e2]; clear e2 σ''
  obtain ⟨rfl, rfl, rfl⟩ : y = 0 ∧ v = 5 ∧ qs = [] := by
    have hj0 : j = 0 := by
      cases j with
      | zero => rfl
      | succ j => have := hno 0 (by omega); simp [hq0.out] at this
    subst hj0
    have : y = 0 := by simpa using hyj
    subst this
    rw [hq0.out] at hqy
    simp at hqy
    exact ⟨rfl, hqy.1.symm, hqy.2⟩
  clear hno hyj hqy
  replace W8 := Keep.mk W8
  replace hold8 := Keep.mk hold8
  replace z8 := Keep.mk z8
  walk_nrm
  repeat (first
    | refine y_seq ?_
    | (refine y_region ?_; simp only [List.size_toArray, List.length_cons, List.length_nil, Nat.reduceAdd, Nat.zero_add, List.range, List.range.loop])
    | refine y_regionEnd ?_
    | (refine y_nw rfl (by rfl) rfl (by first | exact nx_of rfl | exact nx_nil rfl rfl | exact nx_int rfl rfl rfl) (fun dd hS K hK => ?_); go_simp; refine hK _ _ _ ?_; clear hK K hS dd; simp only [recOf]; try walk_nrm)
    | (refine y_unwanted rfl (by rfl) ?_; try walk_nrm)
    | (refine y_cond true rfl ?_; simp only [if_true])
    | (refine y_cond false rfl ?_; simp only [Bool.false_eq_true, if_false])
    | refine y_skip ?_ | refine y_block ?_ | refine y_inBlock ?_ | refine y_label ?_ | refine y_exit rfl ?_ | refine y_ret ?_ | refine y_end ?_ | refine y_scope ?_ | refine y_inScope ?_)
  refine y_callR rfl (by rfl) rfl rfl Try.func46 (by kernel_rfl) (by kernel_rfl) (W8.out.select (t := .pointer none) (fun _ => rfl) (by decide) ⟨1, by decide, by simp [upd1, hq1.out]⟩ hf.out) (by simp only [List.map_toArray, List.map_cons, List.map_nil] <;> rfl) ?_
  rintro r σ'' w9 ⟨e2, z9, hold9, y, v, qs, hy, hqy, ⟨j, hj, hyj, hno⟩, rfl, W9⟩
  rw [e2]; clear e2 σ''
  obtain ⟨rfl, rfl, rfl⟩ : y = 1 ∧ v = 6 ∧ qs = [] := by
    have hj0 : j = 0 := by
      cases j with
      | zero => rfl
      | succ j => have := hno 0 (by omega); simp [upd1, hq1.out] at this
    subst hj0
    have : y = 1 := by simpa using hyj
    subst this
    simp [upd1, hq1.out] at hqy
    exact ⟨rfl, hqy.1.symm, hqy.2⟩
  clear hno hyj hqy
  replace W9 := Keep.mk W9
  replace hold9 := Keep.mk hold9
  replace z9 := Keep.mk z9
  walk_nrm
  repeat (first
    | refine y_seq ?_
    | (refine y_region ?_; simp only [List.size_toArray, List.length_cons, List.length_nil, Nat.reduceAdd, Nat.zero_add, List.range, List.range.loop])
    | refine y_regionEnd ?_
    | (refine y_nw rfl (by rfl) rfl (by first | exact nx_of rfl | exact nx_nil rfl rfl | exact nx_int rfl rfl rfl) (fun dd hS K hK => ?_); go_simp; refine hK _ _ _ ?_; clear hK K hS dd; simp only [recOf]; try walk_nrm)
    | (refine y_unwanted rfl (by rfl) ?_; try walk_nrm)
    | (refine y_cond true rfl ?_; simp only [if_true])
    | (refine y_cond false rfl ?_; simp only [Bool.false_eq_true, if_false])
    | refine y_skip ?_ | refine y_block ?_ | refine y_inBlock ?_ | refine y_label ?_ | refine y_exit rfl ?_ | refine y_ret ?_ | refine y_end ?_ | refine y_scope ?_ | refine y_inScope ?_)
  refine y_callR rfl (by rfl) rfl rfl Try.func47 (by kernel_rfl) (by kernel_rfl) (W9.out.try (t := .pointer none) (fun _ => rfl) (by decide) hf.out) (by simp only [List.map_toArray, List.map_cons, List.map_nil] <;> rfl) ?_
  rintro r σ'' w10 ⟨e2, z10, hold10, hres⟩
  rw [e2]; clear e2 σ''
  obtain rfl : r = .tuple #[.int .i64 (-1), .int .i64 0, .bool false, .int .i64 0] := by
    rcases hres with ⟨y, v, hy, hne, _⟩ | ⟨_, h⟩
    · have : y = 0 ∨ y = 1 := by omega
      rcases this with rfl | rfl
      · exact absurd (by simp [upd1]) hne
      · exact absurd (by simp [upd1]) hne
    · exact h
  clear hres
  replace hold10 := Keep.mk hold10
  replace z10 := Keep.mk z10
  walk_nrm
  repeat (first
    | refine y_seq ?_
    | (refine y_region ?_; simp only [List.size_toArray, List.length_cons, List.length_nil, Nat.reduceAdd, Nat.zero_add, List.range, List.range.loop])
    | refine y_regionEnd ?_
    | (refine y_nw rfl (by rfl) rfl (by first | exact nx_of rfl | exact nx_nil rfl rfl | exact nx_int rfl rfl rfl) (fun dd hS K hK => ?_); go_simp; refine hK _ _ _ ?_; clear hK K hS dd; simp only [recOf]; try walk_nrm)
    | (refine y_unwanted rfl (by rfl) ?_; try walk_nrm)
    | (refine y_cond true rfl ?_; simp only [if_true])
    | (refine y_cond false rfl ?_; simp only [Bool.false_eq_true, if_false])
    | refine y_skip ?_ | refine y_block ?_ | refine y_inBlock ?_ | refine y_label ?_ | refine y_exit rfl ?_ | refine y_ret ?_ | refine y_end ?_ | refine y_scope ?_ | refine y_inScope ?_)
  refine y_leave rfl rfl Try.func48 (resultsC_tmp rfl _) ?_
  replace H := Keep.out H
  replace z8 := Keep.out z8
  replace z9 := Keep.out z9
  replace z10 := Keep.out z10
  replace g7 := Keep.out g7
  replace hold7 := Keep.out hold7
  replace hold8 := Keep.out hold8
  replace hold9 := Keep.out hold9
  replace hold10 := Keep.out hold10
  replace hnew := Keep.out hnew
  replace z4 := Keep.out z4
  replace htk := Keep.out htk
  replace g04 := Keep.out g04
  refine H _ _ _ ⟨rfl, rfl, by omega, fun b hb => ?_⟩
  have hc : ∀ x, x < 2 → ¬ (S x).cell b := fun x hx h => by have := hnew x hx b h; omega
  have h1 : b ≠ w.heap.size := by omega
  have h2 : b ≠ w3.heap.size := by have := gw3.out; omega
  rw [hold10 b (by omega) hc h1 h2, hold9 b (by omega) hc h1 h2, hold8 b (by omega) hc h1 h2, hold7 b hb]
end Go.Proofs.Ytcibnfjpagmdaaa
