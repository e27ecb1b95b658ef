/- Pipes, one goroutine alone. -/
import Derived.Test.YtcibnfjpagmdaaaDraw
import Derived.Test.YtcibnfjpagmdaaaCell
set_option linter.unusedSimpArgs false
set_option linter.unusedVariables false
set_option maxRecDepth 100000
namespace Go.Proofs.Ytcibnfjpagmdaaa
open Go.TX Go.Conc Go.RowKit Go.MapKept
variable {J : Judge Try.prog} {σ : Cfg} {w : World}

theorem wrap_small {x : Int} (h1 : -9223372036854775808 ≤ x) (h2 : x ≤ 9223372036854775807) : IntKind.i64.wrap x = x := by
  simp [IntKind.wrap, IntKind.min, IntKind.max, IntKind.signed, IntKind.bits] <;> (try split) <;> omega

theorem pipe_none_nil : CallsX J 144 #[.pointer none] σ w fun v σ' w' => v = .bool true ∧ σ' = σ ∧ w' = w := by
  refine callsX_body Try.func144 rfl fun c cs H HN => ?_
  simp only [Try.f144, Try.ntmps144, List.size_toArray, List.length_cons, List.length_nil, Nat.reduceAdd, Nat.reduceSub, Nat.zero_add, Array.replicate_succ, Array.replicate_zero, List.push_toArray, List.append_toArray, List.nil_append, List.cons_append, List.append_nil]
  repeat (first
    | refine y_seq ?_
    | (refine y_region ?_; simp only [List.size_toArray, List.length_cons, List.length_nil, Nat.reduceAdd, Nat.zero_add, List.range, List.range.loop])
    | refine y_regionEnd ?_
    | (refine y_nw rfl (by rfl) rfl (by first | exact nx_of rfl | exact nx_nil rfl rfl | exact nx_int rfl rfl rfl) (fun dd hS K hK => ?_); go_simp; refine hK _ _ _ ?_; clear hK K hS dd; simp only [recOf]; try walk_nrm)
    | (refine y_unwanted rfl (by rfl) ?_; try walk_nrm)
    | (refine y_cond true rfl ?_; simp only [if_true])
    | (refine y_cond false rfl ?_; simp only [Bool.false_eq_true, if_false])
    | refine y_skip ?_ | refine y_block ?_ | refine y_inBlock ?_ | refine y_label ?_ | refine y_exit rfl ?_ | refine y_ret ?_ | refine y_end ?_ | refine y_scope ?_ | refine y_inScope ?_)
  refine y_leave rfl rfl Try.func144 (resultsC_tmp rfl _) ?_
  exact H _ _ _ ⟨rfl, rfl, rfl⟩
theorem pipe_none (p : Nat) (x : Option Addr) (hm : w.cell? ⟨p, 0, none⟩ = some (.pointer x)) : CallsX J 144 #[.pointer (some ⟨p, 0, none⟩)] σ w fun v σ' w' => v = .bool x.isNone ∧ σ' = σ ∧ w' = w := by
  cases x with
  | none =>
    refine callsX_body Try.func144 rfl fun c cs H HN => ?_
    simp only [Try.f144, Try.ntmps144, List.size_toArray, List.length_cons, List.length_nil, Nat.reduceAdd, Nat.reduceSub, Nat.zero_add, Array.replicate_succ, Array.replicate_zero, List.push_toArray, List.append_toArray, List.nil_append, List.cons_append, List.append_nil]
    repeat (first
      | refine y_seq ?_
      | (refine y_region ?_; simp only [List.size_toArray, List.length_cons, List.length_nil, Nat.reduceAdd, Nat.zero_add, List.range, List.range.loop])
      | refine y_regionEnd ?_
      | (refine y_nw rfl (by rfl) rfl (by first | exact nx_of rfl | exact nx_nil rfl rfl | exact nx_int rfl rfl rfl) (fun dd hS K hK => ?_); go_simp; refine hK _ _ _ ?_; clear hK K hS dd; simp only [recOf]; try walk_nrm)
      | (refine y_unwanted rfl (by rfl) ?_; try walk_nrm)
      | (refine y_cond true rfl ?_; simp only [if_true])
      | (refine y_cond false rfl ?_; simp only [Bool.false_eq_true, if_false])
      | refine y_skip ?_ | refine y_block ?_ | refine y_inBlock ?_ | refine y_label ?_ | refine y_exit rfl ?_ | refine y_ret ?_ | refine y_end ?_ | refine y_scope ?_ | refine y_inScope ?_)
    refine y_leave rfl rfl Try.func144 (resultsC_tmp rfl _) ?_
    exact H _ _ _ ⟨rfl, rfl, rfl⟩
  | some x =>
    refine callsX_body Try.func144 rfl fun c cs H HN => ?_
    simp only [Try.f144, Try.ntmps144, List.size_toArray, List.length_cons, List.length_nil, Nat.reduceAdd, Nat.reduceSub, Nat.zero_add, Array.replicate_succ, Array.replicate_zero, List.push_toArray, List.append_toArray, List.nil_append, List.cons_append, List.append_nil]
    repeat (first
      | refine y_seq ?_
      | (refine y_region ?_; simp only [List.size_toArray, List.length_cons, List.length_nil, Nat.reduceAdd, Nat.zero_add, List.range, List.range.loop])
      | refine y_regionEnd ?_
      | (refine y_nw rfl (by rfl) rfl (by first | exact nx_of rfl | exact nx_nil rfl rfl | exact nx_int rfl rfl rfl) (fun dd hS K hK => ?_); go_simp; refine hK _ _ _ ?_; clear hK K hS dd; simp only [recOf]; try walk_nrm)
      | (refine y_unwanted rfl (by rfl) ?_; try walk_nrm)
      | (refine y_cond true rfl ?_; simp only [if_true])
      | (refine y_cond false rfl ?_; simp only [Bool.false_eq_true, if_false])
      | refine y_skip ?_ | refine y_block ?_ | refine y_inBlock ?_ | refine y_label ?_ | refine y_exit rfl ?_ | refine y_ret ?_ | refine y_end ?_ | refine y_scope ?_ | refine y_inScope ?_)
    refine y_leave rfl rfl Try.func144 (resultsC_tmp rfl _) ?_
    exact H _ _ _ ⟨rfl, rfl, rfl⟩

/-- The index of a place. -/
abbrev idx (n : Nat) (k : Int) : Int := bits .and .i64 k (IntKind.i64.wrap ((n : Int) - 1))

theorem pipe_at (p pl n cap : Nat) (k : Int) (hm : w.cell? ⟨p, 3, none⟩ = some (.slice (some ⟨pl, 0, none⟩) n cap)) (h0 : 0 ≤ idx n k) (h1 : idx n k < n) : CallsX J 145 #[.pointer (some ⟨p, 0, none⟩), .int .i64 k] σ w fun v σ' w' =>
    v = .pointer (some ⟨pl, (idx n k).toNat * 2, none⟩) ∧ σ' = σ ∧ w' = w := by
  refine callsX_body Try.func145 rfl fun c cs H HN => ?_
  simp only [Try.f145, Try.ntmps145, List.size_toArray, List.length_cons, List.length_nil, Nat.reduceAdd, Nat.reduceSub, Nat.zero_add, Array.replicate_succ, Array.replicate_zero, List.push_toArray, List.append_toArray, List.nil_append, List.cons_append, List.append_nil]
  repeat (first
    | refine y_seq ?_
    | (refine y_region ?_; simp only [List.size_toArray, List.length_cons, List.length_nil, Nat.reduceAdd, Nat.zero_add, List.range, List.range.loop])
    | refine y_regionEnd ?_
    | (refine y_nw rfl (by rfl) rfl (by first | exact nx_of rfl | exact nx_nil rfl rfl | exact nx_int rfl rfl rfl) (fun dd hS K hK => ?_); go_simp; refine hK _ _ _ ?_; clear hK K hS dd; simp only [recOf]; try walk_nrm)
    | (refine y_unwanted rfl (by rfl) ?_; try walk_nrm)
    | (refine y_cond true rfl ?_; simp only [if_true])
    | (refine y_cond false rfl ?_; simp only [Bool.false_eq_true, if_false])
    | refine y_skip ?_ | refine y_block ?_ | refine y_inBlock ?_ | refine y_label ?_ | refine y_exit rfl ?_ | refine y_ret ?_ | refine y_end ?_ | refine y_scope ?_ | refine y_inScope ?_)
  refine y_drawnQ (fun _ w' => w'.cell? ⟨p, 3, none⟩ = some (.slice (some ⟨pl, 0, none⟩) n cap)) (fun _ => false) (by kernel_rfl) rfl ?_
  simp only [List.size_toArray, List.length_cons, List.length_nil, Nat.reduceAdd, Nat.reduceSub, Nat.zero_add, Array.replicate_succ, Array.replicate_zero, List.push_toArray, List.append_toArray, List.nil_append, List.cons_append, List.append_nil]
  first | (apply anyX_takeW (i := 0) rfl; (focus rfl); (focus (first | exact nx_of rfl | exact nx_nil rfl rfl | exact nx_int rfl rfl rfl)); (focus (rintro σ' w' hS' d K hK; go_simp; exact hK)); (focus kernel_rfl); (focus kernel_rfl); (focus kernel_rfl); (focus kernel_rfl); (focus (assumption))) | (refine anyX_takeU (i := 0) rfl rfl (by kernel_rfl) (by kernel_rfl) (by kernel_rfl) (by kernel_rfl) (by assumption) ?_)
  try walk_nrm
  first | (apply anyX_takeW (i := 1) rfl; (focus rfl); (focus (first | exact nx_of rfl | exact nx_nil rfl rfl | exact nx_int rfl rfl rfl)); (focus (rintro σ' w' hS' d K hK; go_simp; exact hK)); (focus kernel_rfl); (focus kernel_rfl); (focus kernel_rfl); (focus kernel_rfl); (focus (assumption))) | (refine anyX_takeU (i := 1) rfl rfl (by kernel_rfl) (by kernel_rfl) (by kernel_rfl) (by kernel_rfl) (by assumption) ?_)
  try walk_nrm
  first | (apply anyX_takeW (i := 2) rfl; (focus rfl); (focus (first | exact nx_of rfl | exact nx_nil rfl rfl | exact nx_int rfl rfl rfl)); (focus (rintro σ' w' hS' d K hK; go_simp; exact hK)); (focus kernel_rfl); (focus kernel_rfl); (focus kernel_rfl); (focus kernel_rfl); (focus (assumption))) | (refine anyX_takeU (i := 2) rfl rfl (by kernel_rfl) (by kernel_rfl) (by kernel_rfl) (by kernel_rfl) (by assumption) ?_)
  try walk_nrm
  first | (apply anyX_takeW (i := 3) rfl; (focus rfl); (focus (first | exact nx_of rfl | exact nx_nil rfl rfl | exact nx_int rfl rfl rfl)); (focus (rintro σ' w' hS' d K hK; go_simp; exact hK)); (focus kernel_rfl); (focus kernel_rfl); (focus kernel_rfl); (focus kernel_rfl); (focus (assumption))) | (refine anyX_takeU (i := 3) rfl rfl (by kernel_rfl) (by kernel_rfl) (by kernel_rfl) (by kernel_rfl) (by assumption) ?_)
  try walk_nrm
  first | (apply anyX_takeW (i := 4) rfl; (focus rfl); (focus (first | exact nx_of rfl | exact nx_nil rfl rfl | exact nx_int rfl rfl rfl)); (focus (rintro σ' w' hS' d K hK; go_simp; exact hK)); (focus kernel_rfl); (focus kernel_rfl); (focus kernel_rfl); (focus kernel_rfl); (focus (assumption))) | (refine anyX_takeU (i := 4) rfl rfl (by kernel_rfl) (by kernel_rfl) (by kernel_rfl) (by kernel_rfl) (by assumption) ?_)
  try walk_nrm
  first | (apply anyX_takeW (i := 5) rfl; (focus rfl); (focus (first | exact nx_of rfl | exact nx_nil rfl rfl | exact nx_int rfl rfl rfl)); (focus (rintro σ' w' hS' d K hK; go_simp; exact hK)); (focus kernel_rfl); (focus kernel_rfl); (focus kernel_rfl); (focus kernel_rfl); (focus (assumption))) | (refine anyX_takeU (i := 5) rfl rfl (by kernel_rfl) (by kernel_rfl) (by kernel_rfl) (by kernel_rfl) (by assumption) ?_)
  try walk_nrm
  first | (apply anyX_takeW (i := 6) rfl; (focus rfl); (focus (first | exact nx_of rfl | exact nx_nil rfl rfl | exact nx_int rfl rfl rfl)); (focus (rintro σ' w' hS' d K hK; go_simp; exact hK)); (focus kernel_rfl); (focus kernel_rfl); (focus kernel_rfl); (focus kernel_rfl); (focus (assumption))) | (refine anyX_takeU (i := 6) rfl rfl (by kernel_rfl) (by kernel_rfl) (by kernel_rfl) (by kernel_rfl) (by assumption) ?_)
  try walk_nrm
  first | (apply anyX_takeW (i := 7) rfl; (focus rfl); (focus (first | exact nx_of rfl | exact nx_nil rfl rfl | exact nx_int rfl rfl rfl)); (focus (rintro σ' w' hS' d K hK; go_simp; exact hK)); (focus kernel_rfl); (focus kernel_rfl); (focus kernel_rfl); (focus kernel_rfl); (focus (assumption))) | (refine anyX_takeU (i := 7) rfl rfl (by kernel_rfl) (by kernel_rfl) (by kernel_rfl) (by kernel_rfl) (by assumption) ?_)
  try walk_nrm
  first | (apply anyX_takeW (i := 8) rfl; (focus rfl); (focus (first | exact nx_of rfl | exact nx_nil rfl rfl | exact nx_int rfl rfl rfl)); (focus (rintro σ' w' hS' d K hK; go_simp; exact hK)); (focus kernel_rfl); (focus kernel_rfl); (focus kernel_rfl); (focus kernel_rfl); (focus (assumption))) | (refine anyX_takeU (i := 8) rfl rfl (by kernel_rfl) (by kernel_rfl) (by kernel_rfl) (by kernel_rfl) (by assumption) ?_)
  try walk_nrm
  first | (apply anyX_takeW (i := 9) rfl; (focus rfl); (focus (first | exact nx_of rfl | exact nx_nil rfl rfl | exact nx_int rfl rfl rfl)); (focus (rintro σ' w' hS' d K hK; go_simp; exact hK)); (focus kernel_rfl); (focus kernel_rfl); (focus kernel_rfl); (focus kernel_rfl); (focus (assumption))) | (refine anyX_takeU (i := 9) rfl rfl (by kernel_rfl) (by kernel_rfl) (by kernel_rfl) (by kernel_rfl) (by assumption) ?_)
  try walk_nrm
  first | (apply anyX_takeW (i := 10) rfl; (focus rfl); (focus (first | exact nx_of rfl | exact nx_nil rfl rfl | exact nx_int rfl rfl rfl)); (focus (rintro σ' w' hS' d K hK; go_simp; exact hK)); (focus kernel_rfl); (focus kernel_rfl); (focus kernel_rfl); (focus kernel_rfl); (focus (assumption))) | (refine anyX_takeU (i := 10) rfl rfl (by kernel_rfl) (by kernel_rfl) (by kernel_rfl) (by kernel_rfl) (by assumption) ?_)
  try walk_nrm
  first | (apply anyX_takeW (i := 11) rfl; (focus rfl); (focus (first | exact nx_of rfl | exact nx_nil rfl rfl | exact nx_int rfl rfl rfl)); (focus (rintro σ' w' hS' d K hK; go_simp; exact hK)); (focus kernel_rfl); (focus kernel_rfl); (focus kernel_rfl); (focus kernel_rfl); (focus (assumption))) | (refine anyX_takeU (i := 11) rfl rfl (by kernel_rfl) (by kernel_rfl) (by kernel_rfl) (by kernel_rfl) (by assumption) ?_)
  try walk_nrm
  first | (apply anyX_takeW (i := 12) rfl; (focus rfl); (focus (first | exact nx_of rfl | exact nx_nil rfl rfl | exact nx_int rfl rfl rfl)); (focus (rintro σ' w' hS' d K hK; go_simp; exact hK)); (focus kernel_rfl); (focus kernel_rfl); (focus kernel_rfl); (focus kernel_rfl); (focus (assumption))) | (refine anyX_takeU (i := 12) rfl rfl (by kernel_rfl) (by kernel_rfl) (by kernel_rfl) (by kernel_rfl) (by assumption) ?_)
  try walk_nrm
  first | (apply anyX_takeW (i := 13) rfl; (focus rfl); (focus (first | exact nx_of rfl | exact nx_nil rfl rfl | exact nx_int rfl rfl rfl)); (focus (rintro σ' w' hS' d K hK; go_simp; exact hK)); (focus kernel_rfl); (focus kernel_rfl); (focus kernel_rfl); (focus kernel_rfl); (focus (assumption))) | (refine anyX_takeU (i := 13) rfl rfl (by kernel_rfl) (by kernel_rfl) (by kernel_rfl) (by kernel_rfl) (by assumption) ?_)
  try walk_nrm
  refine anyX_end (by kernel_rfl) ?_
  repeat (first
    | refine y_seq ?_
    | (refine y_region ?_; simp only [List.size_toArray, List.length_cons, List.length_nil, Nat.reduceAdd, Nat.zero_add, List.range, List.range.loop])
    | refine y_regionEnd ?_
    | (refine y_nw rfl (by rfl) rfl (by first | exact nx_of rfl | exact nx_nil rfl rfl | exact nx_int rfl rfl rfl) (fun dd hS K hK => ?_); go_simp; refine hK _ _ _ ?_; clear hK K hS dd; simp only [recOf]; try walk_nrm)
    | (refine y_unwanted rfl (by rfl) ?_; try walk_nrm)
    | (refine y_cond true rfl ?_; simp only [if_true])
    | (refine y_cond false rfl ?_; simp only [Bool.false_eq_true, if_false])
    | refine y_skip ?_ | refine y_block ?_ | refine y_inBlock ?_ | refine y_label ?_ | refine y_exit rfl ?_ | refine y_ret ?_ | refine y_end ?_ | refine y_scope ?_ | refine y_inScope ?_)
  refine y_leave rfl rfl Try.func145 (resultsC_tmp rfl _) ?_
  exact H _ _ _ ⟨rfl, rfl, rfl⟩

theorem pipe_bell_nil : CallsX J 104 #[.pointer none] σ w fun v σ' w' => v = .pointer none ∧ σ' = σ ∧ w' = w := by
  refine callsX_body Try.func104 rfl fun c cs H HN => ?_
  simp only [Try.f104, Try.ntmps104, List.size_toArray, List.length_cons, List.length_nil, Nat.reduceAdd, Nat.reduceSub, Nat.zero_add, Array.replicate_succ, Array.replicate_zero, List.push_toArray, List.append_toArray, List.nil_append, List.cons_append, List.append_nil]
  repeat (first
    | refine y_seq ?_
    | (refine y_region ?_; simp only [List.size_toArray, List.length_cons, List.length_nil, Nat.reduceAdd, Nat.zero_add, List.range, List.range.loop])
    | refine y_regionEnd ?_
    | (refine y_nw rfl (by rfl) rfl (by first | exact nx_of rfl | exact nx_nil rfl rfl | exact nx_int rfl rfl rfl) (fun dd hS K hK => ?_); go_simp; refine hK _ _ _ ?_; clear hK K hS dd; simp only [recOf]; try walk_nrm)
    | (refine y_unwanted rfl (by rfl) ?_; try walk_nrm)
    | (refine y_cond true rfl ?_; simp only [if_true])
    | (refine y_cond false rfl ?_; simp only [Bool.false_eq_true, if_false])
    | refine y_skip ?_ | refine y_block ?_ | refine y_inBlock ?_ | refine y_label ?_ | refine y_exit rfl ?_ | refine y_ret ?_ | refine y_end ?_ | refine y_scope ?_ | refine y_inScope ?_)
  refine y_callR rfl (by rfl) rfl rfl Try.func144 (by kernel_rfl) (by kernel_rfl) (pipe_none_nil) (by simp only [List.map_toArray, List.map_cons, List.map_nil] <;> rfl) ?_
  rintro _ σ'' w'' ⟨rfl, e2, e3⟩
  rw [e2, e3]
  clear e2 e3 w'' σ''
  walk_nrm
  repeat (first
    | refine y_seq ?_
    | (refine y_region ?_; simp only [List.size_toArray, List.length_cons, List.length_nil, Nat.reduceAdd, Nat.zero_add, List.range, List.range.loop])
    | refine y_regionEnd ?_
    | (refine y_nw rfl (by rfl) rfl (by first | exact nx_of rfl | exact nx_nil rfl rfl | exact nx_int rfl rfl rfl) (fun dd hS K hK => ?_); go_simp; refine hK _ _ _ ?_; clear hK K hS dd; simp only [recOf]; try walk_nrm)
    | (refine y_unwanted rfl (by rfl) ?_; try walk_nrm)
    | (refine y_cond true rfl ?_; simp only [if_true])
    | (refine y_cond false rfl ?_; simp only [Bool.false_eq_true, if_false])
    | refine y_skip ?_ | refine y_block ?_ | refine y_inBlock ?_ | refine y_label ?_ | refine y_exit rfl ?_ | refine y_ret ?_ | refine y_end ?_ | refine y_scope ?_ | refine y_inScope ?_)
  refine y_leave rfl rfl Try.func104 (resultsC_tmp rfl _) ?_
  exact H _ _ _ ⟨rfl, rfl, rfl⟩
theorem pipe_bell_bare (p : Nat) (hm : w.cell? ⟨p, 0, none⟩ = some (.pointer none)) : CallsX J 104 #[.pointer (some ⟨p, 0, none⟩)] σ w fun v σ' w' => v = .pointer none ∧ σ' = σ ∧ w' = w := by
  refine callsX_body Try.func104 rfl fun c cs H HN => ?_
  simp only [Try.f104, Try.ntmps104, List.size_toArray, List.length_cons, List.length_nil, Nat.reduceAdd, Nat.reduceSub, Nat.zero_add, Array.replicate_succ, Array.replicate_zero, List.push_toArray, List.append_toArray, List.nil_append, List.cons_append, List.append_nil]
  repeat (first
    | refine y_seq ?_
    | (refine y_region ?_; simp only [List.size_toArray, List.length_cons, List.length_nil, Nat.reduceAdd, Nat.zero_add, List.range, List.range.loop])
    | refine y_regionEnd ?_
    | (refine y_nw rfl (by rfl) rfl (by first | exact nx_of rfl | exact nx_nil rfl rfl | exact nx_int rfl rfl rfl) (fun dd hS K hK => ?_); go_simp; refine hK _ _ _ ?_; clear hK K hS dd; simp only [recOf]; try walk_nrm)
    | (refine y_unwanted rfl (by rfl) ?_; try walk_nrm)
    | (refine y_cond true rfl ?_; simp only [if_true])
    | (refine y_cond false rfl ?_; simp only [Bool.false_eq_true, if_false])
    | refine y_skip ?_ | refine y_block ?_ | refine y_inBlock ?_ | refine y_label ?_ | refine y_exit rfl ?_ | refine y_ret ?_ | refine y_end ?_ | refine y_scope ?_ | refine y_inScope ?_)
  refine y_callR rfl (by rfl) rfl rfl Try.func144 (by kernel_rfl) (by kernel_rfl) (pipe_none p none hm) (by simp only [List.map_toArray, List.map_cons, List.map_nil] <;> rfl) ?_
  rintro _ σ'' w'' ⟨rfl, e2, e3⟩
  rw [e2, e3]
  clear e2 e3 w'' σ''
  walk_nrm
  repeat (first
    | refine y_seq ?_
    | (refine y_region ?_; simp only [List.size_toArray, List.length_cons, List.length_nil, Nat.reduceAdd, Nat.zero_add, List.range, List.range.loop])
    | refine y_regionEnd ?_
    | (refine y_nw rfl (by rfl) rfl (by first | exact nx_of rfl | exact nx_nil rfl rfl | exact nx_int rfl rfl rfl) (fun dd hS K hK => ?_); go_simp; refine hK _ _ _ ?_; clear hK K hS dd; simp only [recOf]; try walk_nrm)
    | (refine y_unwanted rfl (by rfl) ?_; try walk_nrm)
    | (refine y_cond true rfl ?_; simp only [if_true])
    | (refine y_cond false rfl ?_; simp only [Bool.false_eq_true, if_false])
    | refine y_skip ?_ | refine y_block ?_ | refine y_inBlock ?_ | refine y_label ?_ | refine y_exit rfl ?_ | refine y_ret ?_ | refine y_end ?_ | refine y_scope ?_ | refine y_inScope ?_)
  refine y_leave rfl rfl Try.func104 (resultsC_tmp rfl _) ?_
  exact H _ _ _ ⟨rfl, rfl, rfl⟩
theorem pipe_bell (p : Nat) (x bell : Addr) (hm : w.cell? ⟨p, 0, none⟩ = some (.pointer (some x))) (hb : w.cell? ⟨p, 2, none⟩ = some (.pointer (some bell))) : CallsX J 104 #[.pointer (some ⟨p, 0, none⟩)] σ w fun v σ' w' => v = .pointer (some bell) ∧ σ' = σ ∧ w' = w := by
  refine callsX_body Try.func104 rfl fun c cs H HN => ?_
  simp only [Try.f104, Try.ntmps104, List.size_toArray, List.length_cons, List.length_nil, Nat.reduceAdd, Nat.reduceSub, Nat.zero_add, Array.replicate_succ, Array.replicate_zero, List.push_toArray, List.append_toArray, List.nil_append, List.cons_append, List.append_nil]
  repeat (first
    | refine y_seq ?_
    | (refine y_region ?_; simp only [List.size_toArray, List.length_cons, List.length_nil, Nat.reduceAdd, Nat.zero_add, List.range, List.range.loop])
    | refine y_regionEnd ?_
    | (refine y_nw rfl (by rfl) rfl (by first | exact nx_of rfl | exact nx_nil rfl rfl | exact nx_int rfl rfl rfl) (fun dd hS K hK => ?_); go_simp; refine hK _ _ _ ?_; clear hK K hS dd; simp only [recOf]; try walk_nrm)
    | (refine y_unwanted rfl (by rfl) ?_; try walk_nrm)
    | (refine y_cond true rfl ?_; simp only [if_true])
    | (refine y_cond false rfl ?_; simp only [Bool.false_eq_true, if_false])
    | refine y_skip ?_ | refine y_block ?_ | refine y_inBlock ?_ | refine y_label ?_ | refine y_exit rfl ?_ | refine y_ret ?_ | refine y_end ?_ | refine y_scope ?_ | refine y_inScope ?_)
  refine y_callR rfl (by rfl) rfl rfl Try.func144 (by kernel_rfl) (by kernel_rfl) (pipe_none p _ hm) (by simp only [List.map_toArray, List.map_cons, List.map_nil] <;> rfl) ?_
  rintro _ σ'' w'' ⟨rfl, e2, e3⟩
  rw [e2, e3]
  clear e2 e3 w'' σ''
  walk_nrm
  repeat (first
    | refine y_seq ?_
    | (refine y_region ?_; simp only [List.size_toArray, List.length_cons, List.length_nil, Nat.reduceAdd, Nat.zero_add, List.range, List.range.loop])
    | refine y_regionEnd ?_
    | (refine y_nw rfl (by rfl) rfl (by first | exact nx_of rfl | exact nx_nil rfl rfl | exact nx_int rfl rfl rfl) (fun dd hS K hK => ?_); go_simp; refine hK _ _ _ ?_; clear hK K hS dd; simp only [recOf]; try walk_nrm)
    | (refine y_unwanted rfl (by rfl) ?_; try walk_nrm)
    | (refine y_cond true rfl ?_; simp only [if_true])
    | (refine y_cond false rfl ?_; simp only [Bool.false_eq_true, if_false])
    | refine y_skip ?_ | refine y_block ?_ | refine y_inBlock ?_ | refine y_label ?_ | refine y_exit rfl ?_ | refine y_ret ?_ | refine y_end ?_ | refine y_scope ?_ | refine y_inScope ?_)
  refine y_leave rfl rfl Try.func104 (resultsC_tmp rfl _) ?_
  exact H _ _ _ ⟨rfl, rfl, rfl⟩

/-! ### one cell is turned -/
structure Upd (w w' : World) (b : Nat) (v : Int) : Prop where
  is : CellIs w' b v
  other : ∀ c, c ≠ b → w'.heap[c]? = w.heap[c]?
  size : w'.heap.size = w.heap.size
theorem Upd.cell {w w' : World} {b : Nat} {v : Int} (h : Upd w w' b v) {ad : Addr} (hne : ad.block ≠ b) : w'.cell? ad = w.cell? ad := cell?_of_block (h.other _ hne)
theorem Upd.later {w w' : World} {b : Nat} {v : Int} (h : Upd w w' b v) {c : Nat} {u : Int} (hne : c ≠ b) (hc : CellIs w c u) : CellIs w' c u := hc.later (h.other _ hne)
theorem upd_set {b : Nat} {v : Int} (h : CellIs w b v) (u : Int) : Upd w (w.setCell ⟨b, 0, none⟩ (.int .i64 u)) b u := ⟨h.set u, fun c hc => setCell_heap_ne hc, setCell_size⟩

theorem store_upd {b : Nat} {v u : Int} {t : Value} (h : CellIs w b v) (ht : Off w t) (hf : σ.Free (· = b)) : CallsX J 62 #[.pointer (some ⟨b, 0, none⟩), t, .int .i64 u] σ w fun r σ' w' => r = .tuple #[] ∧ σ' = σ ∧ Upd w w' b u :=
  (cell_store h ht hf).mono fun _ _ _ ⟨h1, h2, h3⟩ => ⟨h1, h2, h3 ▸ upd_set h u⟩
theorem add_upd {b : Nat} {v u : Int} {t : Value} (h : CellIs w b v) (ht : Off w t) (hf : σ.Free (· = b)) : CallsX J 61 #[.pointer (some ⟨b, 0, none⟩), t, .int .i64 u] σ w fun r σ' w' => r = .int .i64 (IntKind.i64.wrap (v + u)) ∧ σ' = σ ∧ Upd w w' b (IntKind.i64.wrap (v + u)) :=
  (cell_add h ht hf).mono fun _ _ _ ⟨h1, h2, h3⟩ => ⟨h1, h2, h3 ▸ upd_set h _⟩
theorem cas_upd {b : Nat} {v u : Int} {t : Value} (h : CellIs w b v) (ht : Off w t) (hf : σ.Free (· = b)) : CallsX J 64 #[.pointer (some ⟨b, 0, none⟩), t, .int .i64 v, .int .i64 u] σ w fun r σ' w' => r = .bool true ∧ σ' = σ ∧ Upd w w' b u :=
  (cell_cas h ht hf).mono fun _ _ _ ⟨h1, h2, h3⟩ => ⟨by rw [h1]; simp, h2, by rw [h3, if_pos rfl]; exact upd_set h _⟩

/-! ### how a pipe lies in memory -/
structure Shape where
  p : Nat
  bell : Nat
  n : Nat
  i : Nat
  u : Nat
  pl : Nat
  cap : Nat
  t : Nat → Nat
  s : Nat → Nat

/-- The blocks of its cells. -/
def Shape.cell (S : Shape) (b : Nat) : Prop := b = S.i ∨ b = S.u ∨ (∃ j, j < S.n ∧ b = S.t j) ∨ ∃ j, j < S.n ∧ b = S.s j

structure Laid (w : World) (S : Shape) : Prop where
  p0 : w.cell? ⟨S.p, 0, none⟩ = some (.pointer (some ⟨S.i, 0, none⟩))
  p1 : w.cell? ⟨S.p, 1, none⟩ = some (.pointer (some ⟨S.u, 0, none⟩))
  p2 : w.cell? ⟨S.p, 2, none⟩ = some (.pointer (some ⟨S.bell, 0, none⟩))
  p3 : w.cell? ⟨S.p, 3, none⟩ = some (.slice (some ⟨S.pl, 0, none⟩) S.n S.cap)
  lt : ∀ j, j < S.n → w.cell? ⟨S.pl, j * 2, none⟩ = some (.pointer (some ⟨S.t j, 0, none⟩))
  ls : ∀ j, j < S.n → w.cell? ⟨S.pl, j * 2 + 1, none⟩ = some (.pointer (some ⟨S.s j, 0, none⟩))

/-- No two of its blocks are one. -/
structure Shape.Apart (S : Shape) : Prop where
  pc : ∀ b, S.cell b → b ≠ S.p ∧ b ≠ S.pl ∧ b ≠ S.bell
  pp : S.p ≠ S.bell ∧ S.pl ≠ S.bell
  iu : S.i ≠ S.u
  it : ∀ j, j < S.n → S.t j ≠ S.i ∧ S.t j ≠ S.u ∧ S.s j ≠ S.i ∧ S.s j ≠ S.u
  tt : ∀ j j', j < S.n → j' < S.n → S.t j = S.t j' → j = j'
  ss : ∀ j j', j < S.n → j' < S.n → S.s j = S.s j' → j = j'
  ts : ∀ j j', j < S.n → j' < S.n → S.t j ≠ S.s j'

theorem Laid.later {w' : World} {S : Shape} (h : Laid w S) (h1 : w'.heap[S.p]? = w.heap[S.p]?) (h2 : w'.heap[S.pl]? = w.heap[S.pl]?) : Laid w' S :=
  ⟨(cell?_of_block h1).trans h.p0, (cell?_of_block h1).trans h.p1, (cell?_of_block h1).trans h.p2, (cell?_of_block h1).trans h.p3, fun j hj => (cell?_of_block h2).trans (h.lt j hj), fun j hj => (cell?_of_block h2).trans (h.ls j hj)⟩
theorem Laid.upd {w' : World} {S : Shape} {b : Nat} {v : Int} (h : Laid w S) (e : Upd w w' b v) (h1 : S.p ≠ b) (h2 : S.pl ≠ b) : Laid w' S := h.later (e.other _ h1) (e.other _ h2)

theorem Shape.Apart.ni {S : Shape} (A : S.Apart) : S.p ≠ S.i ∧ S.pl ≠ S.i ∧ S.bell ≠ S.i := by
  obtain ⟨h1, h2, h3⟩ := A.pc S.i (.inl rfl); exact ⟨h1.symm, h2.symm, h3.symm⟩
theorem Shape.Apart.nu {S : Shape} (A : S.Apart) : S.p ≠ S.u ∧ S.pl ≠ S.u ∧ S.bell ≠ S.u := by
  obtain ⟨h1, h2, h3⟩ := A.pc S.u (.inr (.inl rfl)); exact ⟨h1.symm, h2.symm, h3.symm⟩
theorem Shape.Apart.nt {S : Shape} (A : S.Apart) {j : Nat} (hj : j < S.n) : S.p ≠ S.t j ∧ S.pl ≠ S.t j ∧ S.bell ≠ S.t j := by
  obtain ⟨h1, h2, h3⟩ := A.pc (S.t j) (.inr (.inr (.inl ⟨j, hj, rfl⟩))); exact ⟨h1.symm, h2.symm, h3.symm⟩
theorem Shape.Apart.ns {S : Shape} (A : S.Apart) {j : Nat} (hj : j < S.n) : S.p ≠ S.s j ∧ S.pl ≠ S.s j ∧ S.bell ≠ S.s j := by
  obtain ⟨h1, h2, h3⟩ := A.pc (S.s j) (.inr (.inr (.inr ⟨j, hj, rfl⟩))); exact ⟨h1.symm, h2.symm, h3.symm⟩

/-- A send where there is room. -/
theorem send_did {S : Shape} {t : Value} {x k v d : Int} {j : Nat} {e0 : Int} (L : Laid w S) (A : S.Apart) (hj : j < S.n) (hoff : ∀ w', Off w' t)
    (hi : CellIs w S.i x) (hx : bits .and .i64 x 1 = 0) (hk : IntKind.i64.wrap (Int.tdiv x 2) = k) (hn0 : 0 ≤ idx S.n k) (hn1 : idx S.n k < S.n) (hjn : (idx S.n k).toNat = j)
    (hturn : CellIs w (S.t j) k) (hslot : CellIs w (S.s j) e0) (hbell : CellIs w S.bell d) (hf : ∀ b, S.cell b ∨ b = S.bell → σ.Free (· = b)) :
    CallsX J 49 #[.pointer (some ⟨S.p, 0, none⟩), t, .int .i64 v] σ w fun r σ' w' => r = .int .i8 1 ∧ σ' = σ ∧
      ∃ w1 w2 w3, Upd w w1 S.i (IntKind.i64.wrap (x + 2)) ∧ Upd w1 w2 (S.s j) v ∧ Upd w2 w3 (S.t j) (IntKind.i64.wrap (k + 1)) ∧ Upd w3 w' S.bell (IntKind.i64.wrap (d + 1)) := by
  have fi : σ.Free (· = S.i) := hf _ (.inl (.inl rfl))
  have ft : σ.Free (· = S.t j) := hf _ (.inl (.inr (.inr (.inl ⟨j, hj, rfl⟩))))
  have fs : σ.Free (· = S.s j) := hf _ (.inl (.inr (.inr (.inr ⟨j, hj, rfl⟩))))
  have fb : σ.Free (· = S.bell) := hf _ (.inr rfl)
  have p0 := L.p0
  have p1 := L.p1
  have p2 := L.p2
  have p3 := L.p3
  have pt := L.lt j hj
  have ps := L.ls j hj
  refine callsX_body Try.func49 rfl fun c cs H HN => ?_
  simp only [Try.f49, Try.ntmps49, List.size_toArray, List.length_cons, List.length_nil, Nat.reduceAdd, Nat.reduceSub, Nat.zero_add, Array.replicate_succ, Array.replicate_zero, List.push_toArray, List.append_toArray, List.nil_append, List.cons_append, List.append_nil]
  repeat (first
    | refine y_seq ?_
    | (refine y_region ?_; simp only [List.size_toArray, List.length_cons, List.length_nil, Nat.reduceAdd, Nat.zero_add, List.range, List.range.loop])
    | refine y_regionEnd ?_
    | (refine y_nw rfl (by rfl) rfl (by first | exact nx_of rfl | exact nx_nil rfl rfl | exact nx_int rfl rfl rfl) (fun dd hS K hK => ?_); go_simp; refine hK _ _ _ ?_; clear hK K hS dd; simp only [recOf]; try walk_nrm)
    | (refine y_unwanted rfl (by rfl) ?_; try walk_nrm)
    | (refine y_cond true rfl ?_; simp only [if_true])
    | (refine y_cond false rfl ?_; simp only [Bool.false_eq_true, if_false])
    | refine y_skip ?_ | refine y_block ?_ | refine y_inBlock ?_ | refine y_label ?_ | refine y_exit rfl ?_ | refine y_ret ?_ | refine y_end ?_ | refine y_scope ?_ | refine y_inScope ?_)
  refine y_callR rfl (by rfl) rfl rfl Try.func144 (by kernel_rfl) (by kernel_rfl) (pipe_none S.p _ p0) (by simp only [List.map_toArray, List.map_cons, List.map_nil] <;> rfl) ?_
  rintro _ σ'' w'' ⟨rfl, e2, e3⟩
  rw [e2, e3]
  clear e2 e3 w'' σ''
  walk_nrm
  repeat (first
    | refine y_seq ?_
    | (refine y_region ?_; simp only [List.size_toArray, List.length_cons, List.length_nil, Nat.reduceAdd, Nat.zero_add, List.range, List.range.loop])
    | refine y_regionEnd ?_
    | (refine y_nw rfl (by rfl) rfl (by first | exact nx_of rfl | exact nx_nil rfl rfl | exact nx_int rfl rfl rfl) (fun dd hS K hK => ?_); go_simp; refine hK _ _ _ ?_; clear hK K hS dd; simp only [recOf]; try walk_nrm)
    | (refine y_unwanted rfl (by rfl) ?_; try walk_nrm)
    | (refine y_cond true rfl ?_; simp only [if_true])
    | (refine y_cond false rfl ?_; simp only [Bool.false_eq_true, if_false])
    | refine y_skip ?_ | refine y_block ?_ | refine y_inBlock ?_ | refine y_label ?_ | refine y_exit rfl ?_ | refine y_ret ?_ | refine y_end ?_ | refine y_scope ?_ | refine y_inScope ?_)
  refine y_loop ?_
  repeat (first
    | refine y_seq ?_
    | (refine y_region ?_; simp only [List.size_toArray, List.length_cons, List.length_nil, Nat.reduceAdd, Nat.zero_add, List.range, List.range.loop])
    | refine y_regionEnd ?_
    | (refine y_nw rfl (by rfl) rfl (by first | exact nx_of rfl | exact nx_nil rfl rfl | exact nx_int rfl rfl rfl) (fun dd hS K hK => ?_); go_simp; refine hK _ _ _ ?_; clear hK K hS dd; simp only [recOf]; try walk_nrm)
    | (refine y_unwanted rfl (by rfl) ?_; try walk_nrm)
    | (refine y_cond true rfl ?_; simp only [if_true])
    | (refine y_cond false rfl ?_; simp only [Bool.false_eq_true, if_false])
    | refine y_skip ?_ | refine y_block ?_ | refine y_inBlock ?_ | refine y_label ?_ | refine y_exit rfl ?_ | refine y_ret ?_ | refine y_end ?_ | refine y_scope ?_ | refine y_inScope ?_)
  refine y_callR rfl (by rfl) rfl rfl Try.func41 (by kernel_rfl) (by kernel_rfl) (cell_load hi (hoff _)) (by simp only [List.map_toArray, List.map_cons, List.map_nil] <;> rfl) ?_
  rintro _ σ'' w'' ⟨rfl, e2, e3⟩
  rw [e2, e3]
  clear e2 e3 w'' σ''
  walk_nrm
  repeat (first
    | refine y_seq ?_
    | (refine y_region ?_; simp only [List.size_toArray, List.length_cons, List.length_nil, Nat.reduceAdd, Nat.zero_add, List.range, List.range.loop])
    | refine y_regionEnd ?_
    | (refine y_nw rfl (by rfl) rfl (by first | exact nx_of rfl | exact nx_nil rfl rfl | exact nx_int rfl rfl rfl) (fun dd hS K hK => ?_); go_simp; refine hK _ _ _ ?_; clear hK K hS dd; simp only [recOf]; try walk_nrm)
    | (refine y_unwanted rfl (by rfl) ?_; try walk_nrm)
    | (refine y_cond true rfl ?_; simp only [if_true])
    | (refine y_cond false rfl ?_; simp only [Bool.false_eq_true, if_false])
    | refine y_skip ?_ | refine y_block ?_ | refine y_inBlock ?_ | refine y_label ?_ | refine y_exit rfl ?_ | refine y_ret ?_ | refine y_end ?_ | refine y_scope ?_ | refine y_inScope ?_)
  refine y_callR rfl (by rfl) rfl rfl Try.func145 (by kernel_rfl) (by kernel_rfl) (pipe_at S.p S.pl S.n S.cap k p3 hn0 hn1) (by simp only [List.map_toArray, List.map_cons, List.map_nil] <;> rfl) ?_
  rintro _ σ'' w'' ⟨rfl, e2, e3⟩
  rw [e2, e3]
  clear e2 e3 w'' σ''
  walk_nrm
  repeat (first
    | refine y_seq ?_
    | (refine y_region ?_; simp only [List.size_toArray, List.length_cons, List.length_nil, Nat.reduceAdd, Nat.zero_add, List.range, List.range.loop])
    | refine y_regionEnd ?_
    | (refine y_nw rfl (by rfl) rfl (by first | exact nx_of rfl | exact nx_nil rfl rfl | exact nx_int rfl rfl rfl) (fun dd hS K hK => ?_); go_simp; refine hK _ _ _ ?_; clear hK K hS dd; simp only [recOf]; try walk_nrm)
    | (refine y_unwanted rfl (by rfl) ?_; try walk_nrm)
    | (refine y_cond true rfl ?_; simp only [if_true])
    | (refine y_cond false rfl ?_; simp only [Bool.false_eq_true, if_false])
    | refine y_skip ?_ | refine y_block ?_ | refine y_inBlock ?_ | refine y_label ?_ | refine y_exit rfl ?_ | refine y_ret ?_ | refine y_end ?_ | refine y_scope ?_ | refine y_inScope ?_)
  refine y_callR rfl (by rfl) rfl rfl Try.func41 (by kernel_rfl) (by kernel_rfl) (cell_load hturn (hoff _)) (by simp only [List.map_toArray, List.map_cons, List.map_nil] <;> rfl) ?_
  rintro _ σ'' w'' ⟨rfl, e2, e3⟩
  rw [e2, e3]
  clear e2 e3 w'' σ''
  walk_nrm
  repeat (first
    | refine y_seq ?_
    | (refine y_region ?_; simp only [List.size_toArray, List.length_cons, List.length_nil, Nat.reduceAdd, Nat.zero_add, List.range, List.range.loop])
    | refine y_regionEnd ?_
    | (refine y_nw rfl (by rfl) rfl (by first | exact nx_of rfl | exact nx_nil rfl rfl | exact nx_int rfl rfl rfl) (fun dd hS K hK => ?_); go_simp; refine hK _ _ _ ?_; clear hK K hS dd; simp only [recOf]; try walk_nrm)
    | (refine y_unwanted rfl (by rfl) ?_; try walk_nrm)
    | (refine y_cond true rfl ?_; simp only [if_true])
    | (refine y_cond false rfl ?_; simp only [Bool.false_eq_true, if_false])
    | refine y_skip ?_ | refine y_block ?_ | refine y_inBlock ?_ | refine y_label ?_ | refine y_exit rfl ?_ | refine y_ret ?_ | refine y_end ?_ | refine y_scope ?_ | refine y_inScope ?_)
  refine y_callR rfl (by rfl) rfl rfl Try.func64 (by kernel_rfl) (by kernel_rfl) (cas_upd (u := IntKind.i64.wrap (x + 2)) hi (hoff _) fi) (by simp only [List.map_toArray, List.map_cons, List.map_nil] <;> rfl) ?_
  rintro _ σ'' w1 ⟨rfl, e2, U1⟩
  rw [e2]
  clear e2 σ''
  walk_nrm
  have L1 := L.upd U1 A.ni.1 A.ni.2.1
  clear p0 p1 p2 p3 pt ps
  have p0 := L1.p0
  have p1 := L1.p1
  have p2 := L1.p2
  have p3 := L1.p3
  have pt := L1.lt j hj
  have ps := L1.ls j hj
  repeat (first
    | refine y_seq ?_
    | (refine y_region ?_; simp only [List.size_toArray, List.length_cons, List.length_nil, Nat.reduceAdd, Nat.zero_add, List.range, List.range.loop])
    | refine y_regionEnd ?_
    | (refine y_nw rfl (by rfl) rfl (by first | exact nx_of rfl | exact nx_nil rfl rfl | exact nx_int rfl rfl rfl) (fun dd hS K hK => ?_); go_simp; refine hK _ _ _ ?_; clear hK K hS dd; simp only [recOf]; try walk_nrm)
    | (refine y_unwanted rfl (by rfl) ?_; try walk_nrm)
    | (refine y_cond true rfl ?_; simp only [if_true])
    | (refine y_cond false rfl ?_; simp only [Bool.false_eq_true, if_false])
    | refine y_skip ?_ | refine y_block ?_ | refine y_inBlock ?_ | refine y_label ?_ | refine y_exit rfl ?_ | refine y_ret ?_ | refine y_end ?_ | refine y_scope ?_ | refine y_inScope ?_)
  refine y_callR rfl (by rfl) rfl rfl Try.func145 (by kernel_rfl) (by kernel_rfl) (pipe_at S.p S.pl S.n S.cap k p3 hn0 hn1) (by simp only [List.map_toArray, List.map_cons, List.map_nil] <;> rfl) ?_
  rintro _ σ'' w'' ⟨rfl, e2, e3⟩
  rw [e2, e3]
  clear e2 e3 w'' σ''
  walk_nrm
  repeat (first
    | refine y_seq ?_
    | (refine y_region ?_; simp only [List.size_toArray, List.length_cons, List.length_nil, Nat.reduceAdd, Nat.zero_add, List.range, List.range.loop])
    | refine y_regionEnd ?_
    | (refine y_nw rfl (by rfl) rfl (by first | exact nx_of rfl | exact nx_nil rfl rfl | exact nx_int rfl rfl rfl) (fun dd hS K hK => ?_); go_simp; refine hK _ _ _ ?_; clear hK K hS dd; simp only [recOf]; try walk_nrm)
    | (refine y_unwanted rfl (by rfl) ?_; try walk_nrm)
    | (refine y_cond true rfl ?_; simp only [if_true])
    | (refine y_cond false rfl ?_; simp only [Bool.false_eq_true, if_false])
    | refine y_skip ?_ | refine y_block ?_ | refine y_inBlock ?_ | refine y_label ?_ | refine y_exit rfl ?_ | refine y_ret ?_ | refine y_end ?_ | refine y_scope ?_ | refine y_inScope ?_)
  refine y_callR rfl (by rfl) rfl rfl Try.func62 (by kernel_rfl) (by kernel_rfl) (store_upd (U1.later (A.it j hj).2.2.1 hslot) (hoff _) fs) (by simp only [List.map_toArray, List.map_cons, List.map_nil] <;> rfl) ?_
  rintro _ σ'' w2 ⟨rfl, e2, U2⟩
  rw [e2]
  clear e2 σ''
  walk_nrm
  have L2 := L1.upd U2 (A.ns hj).1 (A.ns hj).2.1
  clear p0 p1 p2 p3 pt ps
  have p0 := L2.p0
  have p1 := L2.p1
  have p2 := L2.p2
  have p3 := L2.p3
  have pt := L2.lt j hj
  have ps := L2.ls j hj
  repeat (first
    | refine y_seq ?_
    | (refine y_region ?_; simp only [List.size_toArray, List.length_cons, List.length_nil, Nat.reduceAdd, Nat.zero_add, List.range, List.range.loop])
    | refine y_regionEnd ?_
    | (refine y_nw rfl (by rfl) rfl (by first | exact nx_of rfl | exact nx_nil rfl rfl | exact nx_int rfl rfl rfl) (fun dd hS K hK => ?_); go_simp; refine hK _ _ _ ?_; clear hK K hS dd; simp only [recOf]; try walk_nrm)
    | (refine y_unwanted rfl (by rfl) ?_; try walk_nrm)
    | (refine y_cond true rfl ?_; simp only [if_true])
    | (refine y_cond false rfl ?_; simp only [Bool.false_eq_true, if_false])
    | refine y_skip ?_ | refine y_block ?_ | refine y_inBlock ?_ | refine y_label ?_ | refine y_exit rfl ?_ | refine y_ret ?_ | refine y_end ?_ | refine y_scope ?_ | refine y_inScope ?_)
  refine y_callR rfl (by rfl) rfl rfl Try.func145 (by kernel_rfl) (by kernel_rfl) (pipe_at S.p S.pl S.n S.cap k p3 hn0 hn1) (by simp only [List.map_toArray, List.map_cons, List.map_nil] <;> rfl) ?_
  rintro _ σ'' w'' ⟨rfl, e2, e3⟩
  rw [e2, e3]
  clear e2 e3 w'' σ''
  walk_nrm
  repeat (first
    | refine y_seq ?_
    | (refine y_region ?_; simp only [List.size_toArray, List.length_cons, List.length_nil, Nat.reduceAdd, Nat.zero_add, List.range, List.range.loop])
    | refine y_regionEnd ?_
    | (refine y_nw rfl (by rfl) rfl (by first | exact nx_of rfl | exact nx_nil rfl rfl | exact nx_int rfl rfl rfl) (fun dd hS K hK => ?_); go_simp; refine hK _ _ _ ?_; clear hK K hS dd; simp only [recOf]; try walk_nrm)
    | (refine y_unwanted rfl (by rfl) ?_; try walk_nrm)
    | (refine y_cond true rfl ?_; simp only [if_true])
    | (refine y_cond false rfl ?_; simp only [Bool.false_eq_true, if_false])
    | refine y_skip ?_ | refine y_block ?_ | refine y_inBlock ?_ | refine y_label ?_ | refine y_exit rfl ?_ | refine y_ret ?_ | refine y_end ?_ | refine y_scope ?_ | refine y_inScope ?_)
  refine y_callR rfl (by rfl) rfl rfl Try.func62 (by kernel_rfl) (by kernel_rfl) (store_upd (U2.later (A.ts j j hj hj) (U1.later (A.it j hj).1 hturn)) (hoff _) ft) (by simp only [List.map_toArray, List.map_cons, List.map_nil] <;> rfl) ?_
  rintro _ σ'' w3 ⟨rfl, e2, U3⟩
  rw [e2]
  clear e2 σ''
  walk_nrm
  have L3 := L2.upd U3 (A.nt hj).1 (A.nt hj).2.1
  clear p0 p1 p2 p3 pt ps
  have p0 := L3.p0
  have p1 := L3.p1
  have p2 := L3.p2
  have p3 := L3.p3
  have pt := L3.lt j hj
  have ps := L3.ls j hj
  repeat (first
    | refine y_seq ?_
    | (refine y_region ?_; simp only [List.size_toArray, List.length_cons, List.length_nil, Nat.reduceAdd, Nat.zero_add, List.range, List.range.loop])
    | refine y_regionEnd ?_
    | (refine y_nw rfl (by rfl) rfl (by first | exact nx_of rfl | exact nx_nil rfl rfl | exact nx_int rfl rfl rfl) (fun dd hS K hK => ?_); go_simp; refine hK _ _ _ ?_; clear hK K hS dd; simp only [recOf]; try walk_nrm)
    | (refine y_unwanted rfl (by rfl) ?_; try walk_nrm)
    | (refine y_cond true rfl ?_; simp only [if_true])
    | (refine y_cond false rfl ?_; simp only [Bool.false_eq_true, if_false])
    | refine y_skip ?_ | refine y_block ?_ | refine y_inBlock ?_ | refine y_label ?_ | refine y_exit rfl ?_ | refine y_ret ?_ | refine y_end ?_ | refine y_scope ?_ | refine y_inScope ?_)
  refine y_callR rfl (by rfl) rfl rfl Try.func61 (by kernel_rfl) (by kernel_rfl) (add_upd (U3.later (A.nt hj).2.2 (U2.later (A.ns hj).2.2 (U1.later A.ni.2.2 hbell))) (hoff _) fb) (by simp only [List.map_toArray, List.map_cons, List.map_nil] <;> rfl) ?_
  rintro _ σ'' w4 ⟨rfl, e2, U4⟩
  rw [e2]
  clear e2 σ''
  walk_nrm
  repeat (first
    | refine y_seq ?_
    | (refine y_region ?_; simp only [List.size_toArray, List.length_cons, List.length_nil, Nat.reduceAdd, Nat.zero_add, List.range, List.range.loop])
    | refine y_regionEnd ?_
    | (refine y_nw rfl (by rfl) rfl (by first | exact nx_of rfl | exact nx_nil rfl rfl | exact nx_int rfl rfl rfl) (fun dd hS K hK => ?_); go_simp; refine hK _ _ _ ?_; clear hK K hS dd; simp only [recOf]; try walk_nrm)
    | (refine y_unwanted rfl (by rfl) ?_; try walk_nrm)
    | (refine y_cond true rfl ?_; simp only [if_true])
    | (refine y_cond false rfl ?_; simp only [Bool.false_eq_true, if_false])
    | refine y_skip ?_ | refine y_block ?_ | refine y_inBlock ?_ | refine y_label ?_ | refine y_exit rfl ?_ | refine y_ret ?_ | refine y_end ?_ | refine y_scope ?_ | refine y_inScope ?_)
  refine y_leave rfl rfl Try.func49 (resultsC_tmp rfl _) ?_
  exact H _ _ _ ⟨rfl, rfl, w1, w2, w3, U1, U2, U3, U4⟩

/-- A send to a pipe that is closed. -/
theorem send_closed {S : Shape} {t : Value} {x v : Int} (L : Laid w S) (hoff : ∀ w', Off w' t) (hi : CellIs w S.i x) (hx : bits .and .i64 x 1 = 1) :
    CallsX J 49 #[.pointer (some ⟨S.p, 0, none⟩), t, .int .i64 v] σ w fun r σ' w' => r = .int .i8 3 ∧ σ' = σ ∧ w' = w := by
  have p0 := L.p0
  refine callsX_body Try.func49 rfl fun c cs H HN => ?_
  simp only [Try.f49, Try.ntmps49, List.size_toArray, List.length_cons, List.length_nil, Nat.reduceAdd, Nat.reduceSub, Nat.zero_add, Array.replicate_succ, Array.replicate_zero, List.push_toArray, List.append_toArray, List.nil_append, List.cons_append, List.append_nil]
  repeat (first
    | refine y_seq ?_
    | (refine y_region ?_; simp only [List.size_toArray, List.length_cons, List.length_nil, Nat.reduceAdd, Nat.zero_add, List.range, List.range.loop])
    | refine y_regionEnd ?_
    | (refine y_nw rfl (by rfl) rfl (by first | exact nx_of rfl | exact nx_nil rfl rfl | exact nx_int rfl rfl rfl) (fun dd hS K hK => ?_); go_simp; refine hK _ _ _ ?_; clear hK K hS dd; simp only [recOf]; try walk_nrm)
    | (refine y_unwanted rfl (by rfl) ?_; try walk_nrm)
    | (refine y_cond true rfl ?_; simp only [if_true])
    | (refine y_cond false rfl ?_; simp only [Bool.false_eq_true, if_false])
    | refine y_skip ?_ | refine y_block ?_ | refine y_inBlock ?_ | refine y_label ?_ | refine y_exit rfl ?_ | refine y_ret ?_ | refine y_end ?_ | refine y_scope ?_ | refine y_inScope ?_)
  refine y_callR rfl (by rfl) rfl rfl Try.func144 (by kernel_rfl) (by kernel_rfl) (pipe_none S.p _ p0) (by simp only [List.map_toArray, List.map_cons, List.map_nil] <;> rfl) ?_
  rintro _ σ'' w'' ⟨rfl, e2, e3⟩
  rw [e2, e3]
  clear e2 e3 w'' σ''
  walk_nrm
  repeat (first
    | refine y_seq ?_
    | (refine y_region ?_; simp only [List.size_toArray, List.length_cons, List.length_nil, Nat.reduceAdd, Nat.zero_add, List.range, List.range.loop])
    | refine y_regionEnd ?_
    | (refine y_nw rfl (by rfl) rfl (by first | exact nx_of rfl | exact nx_nil rfl rfl | exact nx_int rfl rfl rfl) (fun dd hS K hK => ?_); go_simp; refine hK _ _ _ ?_; clear hK K hS dd; simp only [recOf]; try walk_nrm)
    | (refine y_unwanted rfl (by rfl) ?_; try walk_nrm)
    | (refine y_cond true rfl ?_; simp only [if_true])
    | (refine y_cond false rfl ?_; simp only [Bool.false_eq_true, if_false])
    | refine y_skip ?_ | refine y_block ?_ | refine y_inBlock ?_ | refine y_label ?_ | refine y_exit rfl ?_ | refine y_ret ?_ | refine y_end ?_ | refine y_scope ?_ | refine y_inScope ?_)
  refine y_loop ?_
  repeat (first
    | refine y_seq ?_
    | (refine y_region ?_; simp only [List.size_toArray, List.length_cons, List.length_nil, Nat.reduceAdd, Nat.zero_add, List.range, List.range.loop])
    | refine y_regionEnd ?_
    | (refine y_nw rfl (by rfl) rfl (by first | exact nx_of rfl | exact nx_nil rfl rfl | exact nx_int rfl rfl rfl) (fun dd hS K hK => ?_); go_simp; refine hK _ _ _ ?_; clear hK K hS dd; simp only [recOf]; try walk_nrm)
    | (refine y_unwanted rfl (by rfl) ?_; try walk_nrm)
    | (refine y_cond true rfl ?_; simp only [if_true])
    | (refine y_cond false rfl ?_; simp only [Bool.false_eq_true, if_false])
    | refine y_skip ?_ | refine y_block ?_ | refine y_inBlock ?_ | refine y_label ?_ | refine y_exit rfl ?_ | refine y_ret ?_ | refine y_end ?_ | refine y_scope ?_ | refine y_inScope ?_)
  refine y_callR rfl (by rfl) rfl rfl Try.func41 (by kernel_rfl) (by kernel_rfl) (cell_load hi (hoff _)) (by simp only [List.map_toArray, List.map_cons, List.map_nil] <;> rfl) ?_
  rintro _ σ'' w'' ⟨rfl, e2, e3⟩
  rw [e2, e3]
  clear e2 e3 w'' σ''
  walk_nrm
  repeat (first
    | refine y_seq ?_
    | (refine y_region ?_; simp only [List.size_toArray, List.length_cons, List.length_nil, Nat.reduceAdd, Nat.zero_add, List.range, List.range.loop])
    | refine y_regionEnd ?_
    | (refine y_nw rfl (by rfl) rfl (by first | exact nx_of rfl | exact nx_nil rfl rfl | exact nx_int rfl rfl rfl) (fun dd hS K hK => ?_); go_simp; refine hK _ _ _ ?_; clear hK K hS dd; simp only [recOf]; try walk_nrm)
    | (refine y_unwanted rfl (by rfl) ?_; try walk_nrm)
    | (refine y_cond true rfl ?_; simp only [if_true])
    | (refine y_cond false rfl ?_; simp only [Bool.false_eq_true, if_false])
    | refine y_skip ?_ | refine y_block ?_ | refine y_inBlock ?_ | refine y_label ?_ | refine y_exit rfl ?_ | refine y_ret ?_ | refine y_end ?_ | refine y_scope ?_ | refine y_inScope ?_)
  refine y_leave rfl rfl Try.func49 (resultsC_tmp rfl _) ?_
  exact H _ _ _ ⟨rfl, rfl, rfl⟩

/-- A send where there is no room. -/
theorem send_full {S : Shape} {t : Value} {x k v u : Int} {j : Nat} (L : Laid w S) (hj : j < S.n) (hoff : ∀ w', Off w' t)
    (hi : CellIs w S.i x) (hx : bits .and .i64 x 1 = 0) (hk : IntKind.i64.wrap (Int.tdiv x 2) = k) (hn0 : 0 ≤ idx S.n k) (hn1 : idx S.n k < S.n) (hjn : (idx S.n k).toNat = j)
    (hturn : CellIs w (S.t j) u) (hneg : IntKind.i64.wrap (u - k) < 0) :
    CallsX J 49 #[.pointer (some ⟨S.p, 0, none⟩), t, .int .i64 v] σ w fun r σ' w' => r = .int .i8 2 ∧ σ' = σ ∧ w' = w := by
  have p0 := L.p0
  have p1 := L.p1
  have p2 := L.p2
  have p3 := L.p3
  have pt := L.lt j hj
  have ps := L.ls j hj
  refine callsX_body Try.func49 rfl fun c cs H HN => ?_
  simp only [Try.f49, Try.ntmps49, List.size_toArray, List.length_cons, List.length_nil, Nat.reduceAdd, Nat.reduceSub, Nat.zero_add, Array.replicate_succ, Array.replicate_zero, List.push_toArray, List.append_toArray, List.nil_append, List.cons_append, List.append_nil]
  repeat (first
    | refine y_seq ?_
    | (refine y_region ?_; simp only [List.size_toArray, List.length_cons, List.length_nil, Nat.reduceAdd, Nat.zero_add, List.range, List.range.loop])
    | refine y_regionEnd ?_
    | (refine y_nw rfl (by rfl) rfl (by first | exact nx_of rfl | exact nx_nil rfl rfl | exact nx_int rfl rfl rfl) (fun dd hS K hK => ?_); go_simp; refine hK _ _ _ ?_; clear hK K hS dd; simp only [recOf]; try walk_nrm)
    | (refine y_unwanted rfl (by rfl) ?_; try walk_nrm)
    | (refine y_cond true rfl ?_; simp only [if_true])
    | (refine y_cond false rfl ?_; simp only [Bool.false_eq_true, if_false])
    | refine y_skip ?_ | refine y_block ?_ | refine y_inBlock ?_ | refine y_label ?_ | refine y_exit rfl ?_ | refine y_ret ?_ | refine y_end ?_ | refine y_scope ?_ | refine y_inScope ?_)
  refine y_callR rfl (by rfl) rfl rfl Try.func144 (by kernel_rfl) (by kernel_rfl) (pipe_none S.p _ p0) (by simp only [List.map_toArray, List.map_cons, List.map_nil] <;> rfl) ?_
  rintro _ σ'' w'' ⟨rfl, e2, e3⟩
  rw [e2, e3]
  clear e2 e3 w'' σ''
  walk_nrm
  repeat (first
    | refine y_seq ?_
    | (refine y_region ?_; simp only [List.size_toArray, List.length_cons, List.length_nil, Nat.reduceAdd, Nat.zero_add, List.range, List.range.loop])
    | refine y_regionEnd ?_
    | (refine y_nw rfl (by rfl) rfl (by first | exact nx_of rfl | exact nx_nil rfl rfl | exact nx_int rfl rfl rfl) (fun dd hS K hK => ?_); go_simp; refine hK _ _ _ ?_; clear hK K hS dd; simp only [recOf]; try walk_nrm)
    | (refine y_unwanted rfl (by rfl) ?_; try walk_nrm)
    | (refine y_cond true rfl ?_; simp only [if_true])
    | (refine y_cond false rfl ?_; simp only [Bool.false_eq_true, if_false])
    | refine y_skip ?_ | refine y_block ?_ | refine y_inBlock ?_ | refine y_label ?_ | refine y_exit rfl ?_ | refine y_ret ?_ | refine y_end ?_ | refine y_scope ?_ | refine y_inScope ?_)
  refine y_loop ?_
  repeat (first
    | refine y_seq ?_
    | (refine y_region ?_; simp only [List.size_toArray, List.length_cons, List.length_nil, Nat.reduceAdd, Nat.zero_add, List.range, List.range.loop])
    | refine y_regionEnd ?_
    | (refine y_nw rfl (by rfl) rfl (by first | exact nx_of rfl | exact nx_nil rfl rfl | exact nx_int rfl rfl rfl) (fun dd hS K hK => ?_); go_simp; refine hK _ _ _ ?_; clear hK K hS dd; simp only [recOf]; try walk_nrm)
    | (refine y_unwanted rfl (by rfl) ?_; try walk_nrm)
    | (refine y_cond true rfl ?_; simp only [if_true])
    | (refine y_cond false rfl ?_; simp only [Bool.false_eq_true, if_false])
    | refine y_skip ?_ | refine y_block ?_ | refine y_inBlock ?_ | refine y_label ?_ | refine y_exit rfl ?_ | refine y_ret ?_ | refine y_end ?_ | refine y_scope ?_ | refine y_inScope ?_)
  refine y_callR rfl (by rfl) rfl rfl Try.func41 (by kernel_rfl) (by kernel_rfl) (cell_load hi (hoff _)) (by simp only [List.map_toArray, List.map_cons, List.map_nil] <;> rfl) ?_
  rintro _ σ'' w'' ⟨rfl, e2, e3⟩
  rw [e2, e3]
  clear e2 e3 w'' σ''
  walk_nrm
  repeat (first
    | refine y_seq ?_
    | (refine y_region ?_; simp only [List.size_toArray, List.length_cons, List.length_nil, Nat.reduceAdd, Nat.zero_add, List.range, List.range.loop])
    | refine y_regionEnd ?_
    | (refine y_nw rfl (by rfl) rfl (by first | exact nx_of rfl | exact nx_nil rfl rfl | exact nx_int rfl rfl rfl) (fun dd hS K hK => ?_); go_simp; refine hK _ _ _ ?_; clear hK K hS dd; simp only [recOf]; try walk_nrm)
    | (refine y_unwanted rfl (by rfl) ?_; try walk_nrm)
    | (refine y_cond true rfl ?_; simp only [if_true])
    | (refine y_cond false rfl ?_; simp only [Bool.false_eq_true, if_false])
    | refine y_skip ?_ | refine y_block ?_ | refine y_inBlock ?_ | refine y_label ?_ | refine y_exit rfl ?_ | refine y_ret ?_ | refine y_end ?_ | refine y_scope ?_ | refine y_inScope ?_)
  refine y_callR rfl (by rfl) rfl rfl Try.func145 (by kernel_rfl) (by kernel_rfl) (pipe_at S.p S.pl S.n S.cap k p3 hn0 hn1) (by simp only [List.map_toArray, List.map_cons, List.map_nil] <;> rfl) ?_
  rintro _ σ'' w'' ⟨rfl, e2, e3⟩
  rw [e2, e3]
  clear e2 e3 w'' σ''
  walk_nrm
  repeat (first
    | refine y_seq ?_
    | (refine y_region ?_; simp only [List.size_toArray, List.length_cons, List.length_nil, Nat.reduceAdd, Nat.zero_add, List.range, List.range.loop])
    | refine y_regionEnd ?_
    | (refine y_nw rfl (by rfl) rfl (by first | exact nx_of rfl | exact nx_nil rfl rfl | exact nx_int rfl rfl rfl) (fun dd hS K hK => ?_); go_simp; refine hK _ _ _ ?_; clear hK K hS dd; simp only [recOf]; try walk_nrm)
    | (refine y_unwanted rfl (by rfl) ?_; try walk_nrm)
    | (refine y_cond true rfl ?_; simp only [if_true])
    | (refine y_cond false rfl ?_; simp only [Bool.false_eq_true, if_false])
    | refine y_skip ?_ | refine y_block ?_ | refine y_inBlock ?_ | refine y_label ?_ | refine y_exit rfl ?_ | refine y_ret ?_ | refine y_end ?_ | refine y_scope ?_ | refine y_inScope ?_)
  refine y_callR rfl (by rfl) rfl rfl Try.func41 (by kernel_rfl) (by kernel_rfl) (cell_load hturn (hoff _)) (by simp only [List.map_toArray, List.map_cons, List.map_nil] <;> rfl) ?_
  rintro _ σ'' w'' ⟨rfl, e2, e3⟩
  rw [e2, e3]
  clear e2 e3 w'' σ''
  walk_nrm
  repeat (first
    | refine y_seq ?_
    | (refine y_region ?_; simp only [List.size_toArray, List.length_cons, List.length_nil, Nat.reduceAdd, Nat.zero_add, List.range, List.range.loop])
    | refine y_regionEnd ?_
    | (refine y_nw rfl (by rfl) rfl (by first | exact nx_of rfl | exact nx_nil rfl rfl | exact nx_int rfl rfl rfl) (fun dd hS K hK => ?_); go_simp; refine hK _ _ _ ?_; clear hK K hS dd; simp only [recOf]; try walk_nrm)
    | (refine y_unwanted rfl (by rfl) ?_; try walk_nrm)
    | (refine y_cond true rfl ?_; simp only [if_true])
    | (refine y_cond false rfl ?_; simp only [Bool.false_eq_true, if_false])
    | refine y_skip ?_ | refine y_block ?_ | refine y_inBlock ?_ | refine y_label ?_ | refine y_exit rfl ?_ | refine y_ret ?_ | refine y_end ?_ | refine y_scope ?_ | refine y_inScope ?_)
  refine y_leave rfl rfl Try.func49 (resultsC_tmp rfl _) ?_
  exact H _ _ _ ⟨rfl, rfl, rfl⟩

/-- A receive where nothing is there. -/
theorem recv_none {S : Shape} {t : Value} {x k u : Int} {j : Nat} (L : Laid w S) (hj : j < S.n) (hoff : ∀ w', Off w' t)
    (hu : CellIs w S.u k) (hn0 : 0 ≤ idx S.n k) (hn1 : idx S.n k < S.n) (hjn : (idx S.n k).toNat = j)
    (hturn : CellIs w (S.t j) u) (hneg : IntKind.i64.wrap (u - IntKind.i64.wrap (k + 1)) < 0) (hi : CellIs w S.i x) (hx : (x == IntKind.i64.wrap (IntKind.i64.wrap (2 * k) + 1)) = false) :
    CallsX J 106 #[.pointer (some ⟨S.p, 0, none⟩), t] σ w fun r σ' w' => r = .tuple #[.int .i64 0, .int .i8 2] ∧ σ' = σ ∧ w' = w := by
  have p0 := L.p0
  have p1 := L.p1
  have p2 := L.p2
  have p3 := L.p3
  have pt := L.lt j hj
  have ps := L.ls j hj
  refine callsX_body Try.func106 rfl fun c cs H HN => ?_
  simp only [Try.f106, Try.ntmps106, List.size_toArray, List.length_cons, List.length_nil, Nat.reduceAdd, Nat.reduceSub, Nat.zero_add, Array.replicate_succ, Array.replicate_zero, List.push_toArray, List.append_toArray, List.nil_append, List.cons_append, List.append_nil]
  repeat (first
    | refine y_seq ?_
    | (refine y_region ?_; simp only [List.size_toArray, List.length_cons, List.length_nil, Nat.reduceAdd, Nat.zero_add, List.range, List.range.loop])
    | refine y_regionEnd ?_
    | (refine y_nw rfl (by rfl) rfl (by first | exact nx_of rfl | exact nx_nil rfl rfl | exact nx_int rfl rfl rfl) (fun dd hS K hK => ?_); go_simp; refine hK _ _ _ ?_; clear hK K hS dd; simp only [recOf]; try walk_nrm)
    | (refine y_unwanted rfl (by rfl) ?_; try walk_nrm)
    | (refine y_cond true rfl ?_; simp only [if_true])
    | (refine y_cond false rfl ?_; simp only [Bool.false_eq_true, if_false])
    | refine y_skip ?_ | refine y_block ?_ | refine y_inBlock ?_ | refine y_label ?_ | refine y_exit rfl ?_ | refine y_ret ?_ | refine y_end ?_ | refine y_scope ?_ | refine y_inScope ?_)
  refine y_callR rfl (by rfl) rfl rfl Try.func144 (by kernel_rfl) (by kernel_rfl) (pipe_none S.p _ p0) (by simp only [List.map_toArray, List.map_cons, List.map_nil] <;> rfl) ?_
  rintro _ σ'' w'' ⟨rfl, e2, e3⟩
  rw [e2, e3]
  clear e2 e3 w'' σ''
  walk_nrm
  repeat (first
    | refine y_seq ?_
    | (refine y_region ?_; simp only [List.size_toArray, List.length_cons, List.length_nil, Nat.reduceAdd, Nat.zero_add, List.range, List.range.loop])
    | refine y_regionEnd ?_
    | (refine y_nw rfl (by rfl) rfl (by first | exact nx_of rfl | exact nx_nil rfl rfl | exact nx_int rfl rfl rfl) (fun dd hS K hK => ?_); go_simp; refine hK _ _ _ ?_; clear hK K hS dd; simp only [recOf]; try walk_nrm)
    | (refine y_unwanted rfl (by rfl) ?_; try walk_nrm)
    | (refine y_cond true rfl ?_; simp only [if_true])
    | (refine y_cond false rfl ?_; simp only [Bool.false_eq_true, if_false])
    | refine y_skip ?_ | refine y_block ?_ | refine y_inBlock ?_ | refine y_label ?_ | refine y_exit rfl ?_ | refine y_ret ?_ | refine y_end ?_ | refine y_scope ?_ | refine y_inScope ?_)
  refine y_loop ?_
  repeat (first
    | refine y_seq ?_
    | (refine y_region ?_; simp only [List.size_toArray, List.length_cons, List.length_nil, Nat.reduceAdd, Nat.zero_add, List.range, List.range.loop])
    | refine y_regionEnd ?_
    | (refine y_nw rfl (by rfl) rfl (by first | exact nx_of rfl | exact nx_nil rfl rfl | exact nx_int rfl rfl rfl) (fun dd hS K hK => ?_); go_simp; refine hK _ _ _ ?_; clear hK K hS dd; simp only [recOf]; try walk_nrm)
    | (refine y_unwanted rfl (by rfl) ?_; try walk_nrm)
    | (refine y_cond true rfl ?_; simp only [if_true])
    | (refine y_cond false rfl ?_; simp only [Bool.false_eq_true, if_false])
    | refine y_skip ?_ | refine y_block ?_ | refine y_inBlock ?_ | refine y_label ?_ | refine y_exit rfl ?_ | refine y_ret ?_ | refine y_end ?_ | refine y_scope ?_ | refine y_inScope ?_)
  refine y_callR rfl (by rfl) rfl rfl Try.func41 (by kernel_rfl) (by kernel_rfl) (cell_load hu (hoff _)) (by simp only [List.map_toArray, List.map_cons, List.map_nil] <;> rfl) ?_
  rintro _ σ'' w'' ⟨rfl, e2, e3⟩
  rw [e2, e3]
  clear e2 e3 w'' σ''
  walk_nrm
  repeat (first
    | refine y_seq ?_
    | (refine y_region ?_; simp only [List.size_toArray, List.length_cons, List.length_nil, Nat.reduceAdd, Nat.zero_add, List.range, List.range.loop])
    | refine y_regionEnd ?_
    | (refine y_nw rfl (by rfl) rfl (by first | exact nx_of rfl | exact nx_nil rfl rfl | exact nx_int rfl rfl rfl) (fun dd hS K hK => ?_); go_simp; refine hK _ _ _ ?_; clear hK K hS dd; simp only [recOf]; try walk_nrm)
    | (refine y_unwanted rfl (by rfl) ?_; try walk_nrm)
    | (refine y_cond true rfl ?_; simp only [if_true])
    | (refine y_cond false rfl ?_; simp only [Bool.false_eq_true, if_false])
    | refine y_skip ?_ | refine y_block ?_ | refine y_inBlock ?_ | refine y_label ?_ | refine y_exit rfl ?_ | refine y_ret ?_ | refine y_end ?_ | refine y_scope ?_ | refine y_inScope ?_)
  refine y_callR rfl (by rfl) rfl rfl Try.func145 (by kernel_rfl) (by kernel_rfl) (pipe_at S.p S.pl S.n S.cap k p3 hn0 hn1) (by simp only [List.map_toArray, List.map_cons, List.map_nil] <;> rfl) ?_
  rintro _ σ'' w'' ⟨rfl, e2, e3⟩
  rw [e2, e3]
  clear e2 e3 w'' σ''
  walk_nrm
  repeat (first
    | refine y_seq ?_
    | (refine y_region ?_; simp only [List.size_toArray, List.length_cons, List.length_nil, Nat.reduceAdd, Nat.zero_add, List.range, List.range.loop])
    | refine y_regionEnd ?_
    | (refine y_nw rfl (by rfl) rfl (by first | exact nx_of rfl | exact nx_nil rfl rfl | exact nx_int rfl rfl rfl) (fun dd hS K hK => ?_); go_simp; refine hK _ _ _ ?_; clear hK K hS dd; simp only [recOf]; try walk_nrm)
    | (refine y_unwanted rfl (by rfl) ?_; try walk_nrm)
    | (refine y_cond true rfl ?_; simp only [if_true])
    | (refine y_cond false rfl ?_; simp only [Bool.false_eq_true, if_false])
    | refine y_skip ?_ | refine y_block ?_ | refine y_inBlock ?_ | refine y_label ?_ | refine y_exit rfl ?_ | refine y_ret ?_ | refine y_end ?_ | refine y_scope ?_ | refine y_inScope ?_)
  refine y_callR rfl (by rfl) rfl rfl Try.func41 (by kernel_rfl) (by kernel_rfl) (cell_load hturn (hoff _)) (by simp only [List.map_toArray, List.map_cons, List.map_nil] <;> rfl) ?_
  rintro _ σ'' w'' ⟨rfl, e2, e3⟩
  rw [e2, e3]
  clear e2 e3 w'' σ''
  walk_nrm
  repeat (first
    | refine y_seq ?_
    | (refine y_region ?_; simp only [List.size_toArray, List.length_cons, List.length_nil, Nat.reduceAdd, Nat.zero_add, List.range, List.range.loop])
    | refine y_regionEnd ?_
    | (refine y_nw rfl (by rfl) rfl (by first | exact nx_of rfl | exact nx_nil rfl rfl | exact nx_int rfl rfl rfl) (fun dd hS K hK => ?_); go_simp; refine hK _ _ _ ?_; clear hK K hS dd; simp only [recOf]; try walk_nrm)
    | (refine y_unwanted rfl (by rfl) ?_; try walk_nrm)
    | (refine y_cond true rfl ?_; simp only [if_true])
    | (refine y_cond false rfl ?_; simp only [Bool.false_eq_true, if_false])
    | refine y_skip ?_ | refine y_block ?_ | refine y_inBlock ?_ | refine y_label ?_ | refine y_exit rfl ?_ | refine y_ret ?_ | refine y_end ?_ | refine y_scope ?_ | refine y_inScope ?_)
  refine y_callR rfl (by rfl) rfl rfl Try.func41 (by kernel_rfl) (by kernel_rfl) (cell_load hi (hoff _)) (by simp only [List.map_toArray, List.map_cons, List.map_nil] <;> rfl) ?_
  rintro _ σ'' w'' ⟨rfl, e2, e3⟩
  rw [e2, e3]
  clear e2 e3 w'' σ''
  walk_nrm
  repeat (first
    | refine y_seq ?_
    | (refine y_region ?_; simp only [List.size_toArray, List.length_cons, List.length_nil, Nat.reduceAdd, Nat.zero_add, List.range, List.range.loop])
    | refine y_regionEnd ?_
    | (refine y_nw rfl (by rfl) rfl (by first | exact nx_of rfl | exact nx_nil rfl rfl | exact nx_int rfl rfl rfl) (fun dd hS K hK => ?_); go_simp; refine hK _ _ _ ?_; clear hK K hS dd; simp only [recOf]; try walk_nrm)
    | (refine y_unwanted rfl (by rfl) ?_; try walk_nrm)
    | (refine y_cond true rfl ?_; simp only [if_true])
    | (refine y_cond false rfl ?_; simp only [Bool.false_eq_true, if_false])
    | refine y_skip ?_ | refine y_block ?_ | refine y_inBlock ?_ | refine y_label ?_ | refine y_exit rfl ?_ | refine y_ret ?_ | refine y_end ?_ | refine y_scope ?_ | refine y_inScope ?_)
  refine y_leave rfl rfl Try.func106 (resultsC_tmp2 rfl _) ?_
  exact H _ _ _ ⟨rfl, rfl, rfl⟩
theorem recv_closed {S : Shape} {t : Value} {x k u : Int} {j : Nat} (L : Laid w S) (hj : j < S.n) (hoff : ∀ w', Off w' t)
    (hu : CellIs w S.u k) (hn0 : 0 ≤ idx S.n k) (hn1 : idx S.n k < S.n) (hjn : (idx S.n k).toNat = j)
    (hturn : CellIs w (S.t j) u) (hneg : IntKind.i64.wrap (u - IntKind.i64.wrap (k + 1)) < 0) (hi : CellIs w S.i x) (hx : x = IntKind.i64.wrap (IntKind.i64.wrap (2 * k) + 1)) :
    CallsX J 106 #[.pointer (some ⟨S.p, 0, none⟩), t] σ w fun r σ' w' => r = .tuple #[.int .i64 0, .int .i8 3] ∧ σ' = σ ∧ w' = w := by
  subst hx
  have p0 := L.p0
  have p1 := L.p1
  have p2 := L.p2
  have p3 := L.p3
  have pt := L.lt j hj
  have ps := L.ls j hj
  refine callsX_body Try.func106 rfl fun c cs H HN => ?_
  simp only [Try.f106, Try.ntmps106, List.size_toArray, List.length_cons, List.length_nil, Nat.reduceAdd, Nat.reduceSub, Nat.zero_add, Array.replicate_succ, Array.replicate_zero, List.push_toArray, List.append_toArray, List.nil_append, List.cons_append, List.append_nil]
  repeat (first
    | refine y_seq ?_
    | (refine y_region ?_; simp only [List.size_toArray, List.length_cons, List.length_nil, Nat.reduceAdd, Nat.zero_add, List.range, List.range.loop])
    | refine y_regionEnd ?_
    | (refine y_nw rfl (by rfl) rfl (by first | exact nx_of rfl | exact nx_nil rfl rfl | exact nx_int rfl rfl rfl) (fun dd hS K hK => ?_); go_simp; refine hK _ _ _ ?_; clear hK K hS dd; simp only [recOf]; try walk_nrm)
    | (refine y_unwanted rfl (by rfl) ?_; try walk_nrm)
    | (refine y_cond true rfl ?_; simp only [if_true])
    | (refine y_cond false rfl ?_; simp only [Bool.false_eq_true, if_false])
    | refine y_skip ?_ | refine y_block ?_ | refine y_inBlock ?_ | refine y_label ?_ | refine y_exit rfl ?_ | refine y_ret ?_ | refine y_end ?_ | refine y_scope ?_ | refine y_inScope ?_)
  refine y_callR rfl (by rfl) rfl rfl Try.func144 (by kernel_rfl) (by kernel_rfl) (pipe_none S.p _ p0) (by simp only [List.map_toArray, List.map_cons, List.map_nil] <;> rfl) ?_
  rintro _ σ'' w'' ⟨rfl, e2, e3⟩
  rw [e2, e3]
  clear e2 e3 w'' σ''
  walk_nrm
  repeat (first
    | refine y_seq ?_
    | (refine y_region ?_; simp only [List.size_toArray, List.length_cons, List.length_nil, Nat.reduceAdd, Nat.zero_add, List.range, List.range.loop])
    | refine y_regionEnd ?_
    | (refine y_nw rfl (by rfl) rfl (by first | exact nx_of rfl | exact nx_nil rfl rfl | exact nx_int rfl rfl rfl) (fun dd hS K hK => ?_); go_simp; refine hK _ _ _ ?_; clear hK K hS dd; simp only [recOf]; try walk_nrm)
    | (refine y_unwanted rfl (by rfl) ?_; try walk_nrm)
    | (refine y_cond true rfl ?_; simp only [if_true])
    | (refine y_cond false rfl ?_; simp only [Bool.false_eq_true, if_false])
    | refine y_skip ?_ | refine y_block ?_ | refine y_inBlock ?_ | refine y_label ?_ | refine y_exit rfl ?_ | refine y_ret ?_ | refine y_end ?_ | refine y_scope ?_ | refine y_inScope ?_)
  refine y_loop ?_
  repeat (first
    | refine y_seq ?_
    | (refine y_region ?_; simp only [List.size_toArray, List.length_cons, List.length_nil, Nat.reduceAdd, Nat.zero_add, List.range, List.range.loop])
    | refine y_regionEnd ?_
    | (refine y_nw rfl (by rfl) rfl (by first | exact nx_of rfl | exact nx_nil rfl rfl | exact nx_int rfl rfl rfl) (fun dd hS K hK => ?_); go_simp; refine hK _ _ _ ?_; clear hK K hS dd; simp only [recOf]; try walk_nrm)
    | (refine y_unwanted rfl (by rfl) ?_; try walk_nrm)
    | (refine y_cond true rfl ?_; simp only [if_true])
    | (refine y_cond false rfl ?_; simp only [Bool.false_eq_true, if_false])
    | refine y_skip ?_ | refine y_block ?_ | refine y_inBlock ?_ | refine y_label ?_ | refine y_exit rfl ?_ | refine y_ret ?_ | refine y_end ?_ | refine y_scope ?_ | refine y_inScope ?_)
  refine y_callR rfl (by rfl) rfl rfl Try.func41 (by kernel_rfl) (by kernel_rfl) (cell_load hu (hoff _)) (by simp only [List.map_toArray, List.map_cons, List.map_nil] <;> rfl) ?_
  rintro _ σ'' w'' ⟨rfl, e2, e3⟩
  rw [e2, e3]
  clear e2 e3 w'' σ''
  walk_nrm
  repeat (first
    | refine y_seq ?_
    | (refine y_region ?_; simp only [List.size_toArray, List.length_cons, List.length_nil, Nat.reduceAdd, Nat.zero_add, List.range, List.range.loop])
    | refine y_regionEnd ?_
    | (refine y_nw rfl (by rfl) rfl (by first | exact nx_of rfl | exact nx_nil rfl rfl | exact nx_int rfl rfl rfl) (fun dd hS K hK => ?_); go_simp; refine hK _ _ _ ?_; clear hK K hS dd; simp only [recOf]; try walk_nrm)
    | (refine y_unwanted rfl (by rfl) ?_; try walk_nrm)
    | (refine y_cond true rfl ?_; simp only [if_true])
    | (refine y_cond false rfl ?_; simp only [Bool.false_eq_true, if_false])
    | refine y_skip ?_ | refine y_block ?_ | refine y_inBlock ?_ | refine y_label ?_ | refine y_exit rfl ?_ | refine y_ret ?_ | refine y_end ?_ | refine y_scope ?_ | refine y_inScope ?_)
  refine y_callR rfl (by rfl) rfl rfl Try.func145 (by kernel_rfl) (by kernel_rfl) (pipe_at S.p S.pl S.n S.cap k p3 hn0 hn1) (by simp only [List.map_toArray, List.map_cons, List.map_nil] <;> rfl) ?_
  rintro _ σ'' w'' ⟨rfl, e2, e3⟩
  rw [e2, e3]
  clear e2 e3 w'' σ''
  walk_nrm
  repeat (first
    | refine y_seq ?_
    | (refine y_region ?_; simp only [List.size_toArray, List.length_cons, List.length_nil, Nat.reduceAdd, Nat.zero_add, List.range, List.range.loop])
    | refine y_regionEnd ?_
    | (refine y_nw rfl (by rfl) rfl (by first | exact nx_of rfl | exact nx_nil rfl rfl | exact nx_int rfl rfl rfl) (fun dd hS K hK => ?_); go_simp; refine hK _ _ _ ?_; clear hK K hS dd; simp only [recOf]; try walk_nrm)
    | (refine y_unwanted rfl (by rfl) ?_; try walk_nrm)
    | (refine y_cond true rfl ?_; simp only [if_true])
    | (refine y_cond false rfl ?_; simp only [Bool.false_eq_true, if_false])
    | refine y_skip ?_ | refine y_block ?_ | refine y_inBlock ?_ | refine y_label ?_ | refine y_exit rfl ?_ | refine y_ret ?_ | refine y_end ?_ | refine y_scope ?_ | refine y_inScope ?_)
  refine y_callR rfl (by rfl) rfl rfl Try.func41 (by kernel_rfl) (by kernel_rfl) (cell_load hturn (hoff _)) (by simp only [List.map_toArray, List.map_cons, List.map_nil] <;> rfl) ?_
  rintro _ σ'' w'' ⟨rfl, e2, e3⟩
  rw [e2, e3]
  clear e2 e3 w'' σ''
  walk_nrm
  repeat (first
    | refine y_seq ?_
    | (refine y_region ?_; simp only [List.size_toArray, List.length_cons, List.length_nil, Nat.reduceAdd, Nat.zero_add, List.range, List.range.loop])
    | refine y_regionEnd ?_
    | (refine y_nw rfl (by rfl) rfl (by first | exact nx_of rfl | exact nx_nil rfl rfl | exact nx_int rfl rfl rfl) (fun dd hS K hK => ?_); go_simp; refine hK _ _ _ ?_; clear hK K hS dd; simp only [recOf]; try walk_nrm)
    | (refine y_unwanted rfl (by rfl) ?_; try walk_nrm)
    | (refine y_cond true rfl ?_; simp only [if_true])
    | (refine y_cond false rfl ?_; simp only [Bool.false_eq_true, if_false])
    | refine y_skip ?_ | refine y_block ?_ | refine y_inBlock ?_ | refine y_label ?_ | refine y_exit rfl ?_ | refine y_ret ?_ | refine y_end ?_ | refine y_scope ?_ | refine y_inScope ?_)
  refine y_callR rfl (by rfl) rfl rfl Try.func41 (by kernel_rfl) (by kernel_rfl) (cell_load hi (hoff _)) (by simp only [List.map_toArray, List.map_cons, List.map_nil] <;> rfl) ?_
  rintro _ σ'' w'' ⟨rfl, e2, e3⟩
  rw [e2, e3]
  clear e2 e3 w'' σ''
  walk_nrm
  repeat (first
    | refine y_seq ?_
    | (refine y_region ?_; simp only [List.size_toArray, List.length_cons, List.length_nil, Nat.reduceAdd, Nat.zero_add, List.range, List.range.loop])
    | refine y_regionEnd ?_
    | (refine y_nw rfl (by rfl) rfl (by first | exact nx_of rfl | exact nx_nil rfl rfl | exact nx_int rfl rfl rfl) (fun dd hS K hK => ?_); go_simp; refine hK _ _ _ ?_; clear hK K hS dd; simp only [recOf]; try walk_nrm)
    | (refine y_unwanted rfl (by rfl) ?_; try walk_nrm)
    | (refine y_cond true rfl ?_; simp only [if_true])
    | (refine y_cond false rfl ?_; simp only [Bool.false_eq_true, if_false])
    | refine y_skip ?_ | refine y_block ?_ | refine y_inBlock ?_ | refine y_label ?_ | refine y_exit rfl ?_ | refine y_ret ?_ | refine y_end ?_ | refine y_scope ?_ | refine y_inScope ?_)
  refine y_leave rfl rfl Try.func106 (resultsC_tmp2 rfl _) ?_
  exact H _ _ _ ⟨rfl, rfl, rfl⟩

/-- A receive. -/
theorem recv_did {S : Shape} {t : Value} {k u v d : Int} {j : Nat} (L : Laid w S) (A : S.Apart) (hj : j < S.n) (hoff : ∀ w', Off w' t)
    (hu : CellIs w S.u k) (hn0 : 0 ≤ idx S.n k) (hn1 : idx S.n k < S.n) (hjn : (idx S.n k).toNat = j)
    (hturn : CellIs w (S.t j) u) (hz : IntKind.i64.wrap (u - IntKind.i64.wrap (k + 1)) = 0) (hslot : CellIs w (S.s j) v) (hbell : CellIs w S.bell d) (hf : ∀ b, S.cell b ∨ b = S.bell → σ.Free (· = b)) :
    CallsX J 106 #[.pointer (some ⟨S.p, 0, none⟩), t] σ w fun r σ' w' => r = .tuple #[.int .i64 v, .int .i8 1] ∧ σ' = σ ∧
      ∃ w1 w2, Upd w w1 S.u (IntKind.i64.wrap (k + 1)) ∧ Upd w1 w2 (S.t j) (IntKind.i64.wrap (k + S.n)) ∧ Upd w2 w' S.bell (IntKind.i64.wrap (d + 1)) := by
  have fu : σ.Free (· = S.u) := hf _ (.inl (.inr (.inl rfl)))
  have ft : σ.Free (· = S.t j) := hf _ (.inl (.inr (.inr (.inl ⟨j, hj, rfl⟩))))
  have fb : σ.Free (· = S.bell) := hf _ (.inr rfl)
  have p0 := L.p0
  have p1 := L.p1
  have p2 := L.p2
  have p3 := L.p3
  have pt := L.lt j hj
  have ps := L.ls j hj
  refine callsX_body Try.func106 rfl fun c cs H HN => ?_
  simp only [Try.f106, Try.ntmps106, List.size_toArray, List.length_cons, List.length_nil, Nat.reduceAdd, Nat.reduceSub, Nat.zero_add, Array.replicate_succ, Array.replicate_zero, List.push_toArray, List.append_toArray, List.nil_append, List.cons_append, List.append_nil]
  repeat (first
    | refine y_seq ?_
    | (refine y_region ?_; simp only [List.size_toArray, List.length_cons, List.length_nil, Nat.reduceAdd, Nat.zero_add, List.range, List.range.loop])
    | refine y_regionEnd ?_
    | (refine y_nw rfl (by rfl) rfl (by first | exact nx_of rfl | exact nx_nil rfl rfl | exact nx_int rfl rfl rfl) (fun dd hS K hK => ?_); go_simp; refine hK _ _ _ ?_; clear hK K hS dd; simp only [recOf]; try walk_nrm)
    | (refine y_unwanted rfl (by rfl) ?_; try walk_nrm)
    | (refine y_cond true rfl ?_; simp only [if_true])
    | (refine y_cond false rfl ?_; simp only [Bool.false_eq_true, if_false])
    | refine y_skip ?_ | refine y_block ?_ | refine y_inBlock ?_ | refine y_label ?_ | refine y_exit rfl ?_ | refine y_ret ?_ | refine y_end ?_ | refine y_scope ?_ | refine y_inScope ?_)
  refine y_callR rfl (by rfl) rfl rfl Try.func144 (by kernel_rfl) (by kernel_rfl) (pipe_none S.p _ p0) (by simp only [List.map_toArray, List.map_cons, List.map_nil] <;> rfl) ?_
  rintro _ σ'' w'' ⟨rfl, e2, e3⟩
  rw [e2, e3]
  clear e2 e3 w'' σ''
  walk_nrm
  repeat (first
    | refine y_seq ?_
    | (refine y_region ?_; simp only [List.size_toArray, List.length_cons, List.length_nil, Nat.reduceAdd, Nat.zero_add, List.range, List.range.loop])
    | refine y_regionEnd ?_
    | (refine y_nw rfl (by rfl) rfl (by first | exact nx_of rfl | exact nx_nil rfl rfl | exact nx_int rfl rfl rfl) (fun dd hS K hK => ?_); go_simp; refine hK _ _ _ ?_; clear hK K hS dd; simp only [recOf]; try walk_nrm)
    | (refine y_unwanted rfl (by rfl) ?_; try walk_nrm)
    | (refine y_cond true rfl ?_; simp only [if_true])
    | (refine y_cond false rfl ?_; simp only [Bool.false_eq_true, if_false])
    | refine y_skip ?_ | refine y_block ?_ | refine y_inBlock ?_ | refine y_label ?_ | refine y_exit rfl ?_ | refine y_ret ?_ | refine y_end ?_ | refine y_scope ?_ | refine y_inScope ?_)
  refine y_loop ?_
  repeat (first
    | refine y_seq ?_
    | (refine y_region ?_; simp only [List.size_toArray, List.length_cons, List.length_nil, Nat.reduceAdd, Nat.zero_add, List.range, List.range.loop])
    | refine y_regionEnd ?_
    | (refine y_nw rfl (by rfl) rfl (by first | exact nx_of rfl | exact nx_nil rfl rfl | exact nx_int rfl rfl rfl) (fun dd hS K hK => ?_); go_simp; refine hK _ _ _ ?_; clear hK K hS dd; simp only [recOf]; try walk_nrm)
    | (refine y_unwanted rfl (by rfl) ?_; try walk_nrm)
    | (refine y_cond true rfl ?_; simp only [if_true])
    | (refine y_cond false rfl ?_; simp only [Bool.false_eq_true, if_false])
    | refine y_skip ?_ | refine y_block ?_ | refine y_inBlock ?_ | refine y_label ?_ | refine y_exit rfl ?_ | refine y_ret ?_ | refine y_end ?_ | refine y_scope ?_ | refine y_inScope ?_)
  refine y_callR rfl (by rfl) rfl rfl Try.func41 (by kernel_rfl) (by kernel_rfl) (cell_load hu (hoff _)) (by simp only [List.map_toArray, List.map_cons, List.map_nil] <;> rfl) ?_
  rintro _ σ'' w'' ⟨rfl, e2, e3⟩
  rw [e2, e3]
  clear e2 e3 w'' σ''
  walk_nrm
  repeat (first
    | refine y_seq ?_
    | (refine y_region ?_; simp only [List.size_toArray, List.length_cons, List.length_nil, Nat.reduceAdd, Nat.zero_add, List.range, List.range.loop])
    | refine y_regionEnd ?_
    | (refine y_nw rfl (by rfl) rfl (by first | exact nx_of rfl | exact nx_nil rfl rfl | exact nx_int rfl rfl rfl) (fun dd hS K hK => ?_); go_simp; refine hK _ _ _ ?_; clear hK K hS dd; simp only [recOf]; try walk_nrm)
    | (refine y_unwanted rfl (by rfl) ?_; try walk_nrm)
    | (refine y_cond true rfl ?_; simp only [if_true])
    | (refine y_cond false rfl ?_; simp only [Bool.false_eq_true, if_false])
    | refine y_skip ?_ | refine y_block ?_ | refine y_inBlock ?_ | refine y_label ?_ | refine y_exit rfl ?_ | refine y_ret ?_ | refine y_end ?_ | refine y_scope ?_ | refine y_inScope ?_)
  refine y_callR rfl (by rfl) rfl rfl Try.func145 (by kernel_rfl) (by kernel_rfl) (pipe_at S.p S.pl S.n S.cap k p3 hn0 hn1) (by simp only [List.map_toArray, List.map_cons, List.map_nil] <;> rfl) ?_
  rintro _ σ'' w'' ⟨rfl, e2, e3⟩
  rw [e2, e3]
  clear e2 e3 w'' σ''
  walk_nrm
  repeat (first
    | refine y_seq ?_
    | (refine y_region ?_; simp only [List.size_toArray, List.length_cons, List.length_nil, Nat.reduceAdd, Nat.zero_add, List.range, List.range.loop])
    | refine y_regionEnd ?_
    | (refine y_nw rfl (by rfl) rfl (by first | exact nx_of rfl | exact nx_nil rfl rfl | exact nx_int rfl rfl rfl) (fun dd hS K hK => ?_); go_simp; refine hK _ _ _ ?_; clear hK K hS dd; simp only [recOf]; try walk_nrm)
    | (refine y_unwanted rfl (by rfl) ?_; try walk_nrm)
    | (refine y_cond true rfl ?_; simp only [if_true])
    | (refine y_cond false rfl ?_; simp only [Bool.false_eq_true, if_false])
    | refine y_skip ?_ | refine y_block ?_ | refine y_inBlock ?_ | refine y_label ?_ | refine y_exit rfl ?_ | refine y_ret ?_ | refine y_end ?_ | refine y_scope ?_ | refine y_inScope ?_)
  refine y_callR rfl (by rfl) rfl rfl Try.func41 (by kernel_rfl) (by kernel_rfl) (cell_load hturn (hoff _)) (by simp only [List.map_toArray, List.map_cons, List.map_nil] <;> rfl) ?_
  rintro _ σ'' w'' ⟨rfl, e2, e3⟩
  rw [e2, e3]
  clear e2 e3 w'' σ''
  walk_nrm
  repeat (first
    | refine y_seq ?_
    | (refine y_region ?_; simp only [List.size_toArray, List.length_cons, List.length_nil, Nat.reduceAdd, Nat.zero_add, List.range, List.range.loop])
    | refine y_regionEnd ?_
    | (refine y_nw rfl (by rfl) rfl (by first | exact nx_of rfl | exact nx_nil rfl rfl | exact nx_int rfl rfl rfl) (fun dd hS K hK => ?_); go_simp; refine hK _ _ _ ?_; clear hK K hS dd; simp only [recOf]; try walk_nrm)
    | (refine y_unwanted rfl (by rfl) ?_; try walk_nrm)
    | (refine y_cond true rfl ?_; simp only [if_true])
    | (refine y_cond false rfl ?_; simp only [Bool.false_eq_true, if_false])
    | refine y_skip ?_ | refine y_block ?_ | refine y_inBlock ?_ | refine y_label ?_ | refine y_exit rfl ?_ | refine y_ret ?_ | refine y_end ?_ | refine y_scope ?_ | refine y_inScope ?_)
  refine y_callR rfl (by rfl) rfl rfl Try.func64 (by kernel_rfl) (by kernel_rfl) (cas_upd (u := IntKind.i64.wrap (k + 1)) hu (hoff _) fu) (by simp only [List.map_toArray, List.map_cons, List.map_nil] <;> rfl) ?_
  rintro _ σ'' w1 ⟨rfl, e2, U1⟩
  rw [e2]
  clear e2 σ''
  walk_nrm
  have L1 := L.upd U1 A.nu.1 A.nu.2.1
  clear p0 p1 p2 p3 pt ps
  have p0 := L1.p0
  have p1 := L1.p1
  have p2 := L1.p2
  have p3 := L1.p3
  have pt := L1.lt j hj
  have ps := L1.ls j hj
  repeat (first
    | refine y_seq ?_
    | (refine y_region ?_; simp only [List.size_toArray, List.length_cons, List.length_nil, Nat.reduceAdd, Nat.zero_add, List.range, List.range.loop])
    | refine y_regionEnd ?_
    | (refine y_nw rfl (by rfl) rfl (by first | exact nx_of rfl | exact nx_nil rfl rfl | exact nx_int rfl rfl rfl) (fun dd hS K hK => ?_); go_simp; refine hK _ _ _ ?_; clear hK K hS dd; simp only [recOf]; try walk_nrm)
    | (refine y_unwanted rfl (by rfl) ?_; try walk_nrm)
    | (refine y_cond true rfl ?_; simp only [if_true])
    | (refine y_cond false rfl ?_; simp only [Bool.false_eq_true, if_false])
    | refine y_skip ?_ | refine y_block ?_ | refine y_inBlock ?_ | refine y_label ?_ | refine y_exit rfl ?_ | refine y_ret ?_ | refine y_end ?_ | refine y_scope ?_ | refine y_inScope ?_)
  refine y_callR rfl (by rfl) rfl rfl Try.func145 (by kernel_rfl) (by kernel_rfl) (pipe_at S.p S.pl S.n S.cap k p3 hn0 hn1) (by simp only [List.map_toArray, List.map_cons, List.map_nil] <;> rfl) ?_
  rintro _ σ'' w'' ⟨rfl, e2, e3⟩
  rw [e2, e3]
  clear e2 e3 w'' σ''
  walk_nrm
  repeat (first
    | refine y_seq ?_
    | (refine y_region ?_; simp only [List.size_toArray, List.length_cons, List.length_nil, Nat.reduceAdd, Nat.zero_add, List.range, List.range.loop])
    | refine y_regionEnd ?_
    | (refine y_nw rfl (by rfl) rfl (by first | exact nx_of rfl | exact nx_nil rfl rfl | exact nx_int rfl rfl rfl) (fun dd hS K hK => ?_); go_simp; refine hK _ _ _ ?_; clear hK K hS dd; simp only [recOf]; try walk_nrm)
    | (refine y_unwanted rfl (by rfl) ?_; try walk_nrm)
    | (refine y_cond true rfl ?_; simp only [if_true])
    | (refine y_cond false rfl ?_; simp only [Bool.false_eq_true, if_false])
    | refine y_skip ?_ | refine y_block ?_ | refine y_inBlock ?_ | refine y_label ?_ | refine y_exit rfl ?_ | refine y_ret ?_ | refine y_end ?_ | refine y_scope ?_ | refine y_inScope ?_)
  refine y_callR rfl (by rfl) rfl rfl Try.func41 (by kernel_rfl) (by kernel_rfl) (cell_load (U1.later (A.it j hj).2.2.2 hslot) (hoff _)) (by simp only [List.map_toArray, List.map_cons, List.map_nil] <;> rfl) ?_
  rintro _ σ'' w'' ⟨rfl, e2, e3⟩
  rw [e2, e3]
  clear e2 e3 w'' σ''
  walk_nrm
  repeat (first
    | refine y_seq ?_
    | (refine y_region ?_; simp only [List.size_toArray, List.length_cons, List.length_nil, Nat.reduceAdd, Nat.zero_add, List.range, List.range.loop])
    | refine y_regionEnd ?_
    | (refine y_nw rfl (by rfl) rfl (by first | exact nx_of rfl | exact nx_nil rfl rfl | exact nx_int rfl rfl rfl) (fun dd hS K hK => ?_); go_simp; refine hK _ _ _ ?_; clear hK K hS dd; simp only [recOf]; try walk_nrm)
    | (refine y_unwanted rfl (by rfl) ?_; try walk_nrm)
    | (refine y_cond true rfl ?_; simp only [if_true])
    | (refine y_cond false rfl ?_; simp only [Bool.false_eq_true, if_false])
    | refine y_skip ?_ | refine y_block ?_ | refine y_inBlock ?_ | refine y_label ?_ | refine y_exit rfl ?_ | refine y_ret ?_ | refine y_end ?_ | refine y_scope ?_ | refine y_inScope ?_)
  refine y_drawnQ (fun _ w' => w'.cell? ⟨S.p, 3, none⟩ = some (.slice (some ⟨S.pl, 0, none⟩) S.n S.cap) ∧ w'.cell? ⟨S.pl, j * 2, none⟩ = some (.pointer (some ⟨S.t j, 0, none⟩))) (fun _ => false) (by kernel_rfl) rfl ?_
  simp only [List.size_toArray, List.length_cons, List.length_nil, Nat.reduceAdd, Nat.reduceSub, Nat.zero_add, Array.replicate_succ, Array.replicate_zero, List.push_toArray, List.append_toArray, List.nil_append, List.cons_append, List.append_nil]
  first | (apply anyX_takeW (i := 0) rfl; (focus rfl); (focus (first | exact nx_of rfl | exact nx_nil rfl rfl | exact nx_int rfl rfl rfl)); (focus (rintro σ' w' ⟨s3, st⟩ d K hK; go_simp; exact hK)); (focus kernel_rfl); (focus kernel_rfl); (focus kernel_rfl); (focus kernel_rfl); (focus (exact ⟨p3, pt⟩))) | (refine anyX_takeU (i := 0) rfl rfl (by kernel_rfl) (by kernel_rfl) (by kernel_rfl) (by kernel_rfl) (by exact ⟨p3, pt⟩) ?_)
  try walk_nrm
  first | (apply anyX_takeW (i := 1) rfl; (focus rfl); (focus (first | exact nx_of rfl | exact nx_nil rfl rfl | exact nx_int rfl rfl rfl)); (focus (rintro σ' w' ⟨s3, st⟩ d K hK; go_simp; exact hK)); (focus kernel_rfl); (focus kernel_rfl); (focus kernel_rfl); (focus kernel_rfl); (focus (exact ⟨p3, pt⟩))) | (refine anyX_takeU (i := 1) rfl rfl (by kernel_rfl) (by kernel_rfl) (by kernel_rfl) (by kernel_rfl) (by exact ⟨p3, pt⟩) ?_)
  try walk_nrm
  first | (apply anyX_takeW (i := 6) rfl; (focus rfl); (focus (first | exact nx_of rfl | exact nx_nil rfl rfl | exact nx_int rfl rfl rfl)); (focus (rintro σ' w' ⟨s3, st⟩ d K hK; go_simp; exact hK)); (focus kernel_rfl); (focus kernel_rfl); (focus kernel_rfl); (focus kernel_rfl); (focus (exact ⟨p3, pt⟩))) | (refine anyX_takeU (i := 6) rfl rfl (by kernel_rfl) (by kernel_rfl) (by kernel_rfl) (by kernel_rfl) (by exact ⟨p3, pt⟩) ?_)
  try walk_nrm
  first | (apply anyX_takeW (i := 7) rfl; (focus rfl); (focus (first | exact nx_of rfl | exact nx_nil rfl rfl | exact nx_int rfl rfl rfl)); (focus (rintro σ' w' ⟨s3, st⟩ d K hK; go_simp; exact hK)); (focus kernel_rfl); (focus kernel_rfl); (focus kernel_rfl); (focus kernel_rfl); (focus (exact ⟨p3, pt⟩))) | (refine anyX_takeU (i := 7) rfl rfl (by kernel_rfl) (by kernel_rfl) (by kernel_rfl) (by kernel_rfl) (by exact ⟨p3, pt⟩) ?_)
  try walk_nrm
  first | (apply anyX_takeW (i := 8) rfl; (focus rfl); (focus (first | exact nx_of rfl | exact nx_nil rfl rfl | exact nx_int rfl rfl rfl)); (focus (rintro σ' w' ⟨s3, st⟩ d K hK; go_simp; exact hK)); (focus kernel_rfl); (focus kernel_rfl); (focus kernel_rfl); (focus kernel_rfl); (focus (exact ⟨p3, pt⟩))) | (refine anyX_takeU (i := 8) rfl rfl (by kernel_rfl) (by kernel_rfl) (by kernel_rfl) (by kernel_rfl) (by exact ⟨p3, pt⟩) ?_)
  try walk_nrm
  first | (apply anyX_takeW (i := 9) rfl; (focus rfl); (focus (first | exact nx_of rfl | exact nx_nil rfl rfl | exact nx_int rfl rfl rfl)); (focus (rintro σ' w' ⟨s3, st⟩ d K hK; go_simp; exact hK)); (focus kernel_rfl); (focus kernel_rfl); (focus kernel_rfl); (focus kernel_rfl); (focus (exact ⟨p3, pt⟩))) | (refine anyX_takeU (i := 9) rfl rfl (by kernel_rfl) (by kernel_rfl) (by kernel_rfl) (by kernel_rfl) (by exact ⟨p3, pt⟩) ?_)
  try walk_nrm
  first | (apply anyX_takeW (i := 10) rfl; (focus rfl); (focus (first | exact nx_of rfl | exact nx_nil rfl rfl | exact nx_int rfl rfl rfl)); (focus (rintro σ' w' ⟨s3, st⟩ d K hK; go_simp; exact hK)); (focus kernel_rfl); (focus kernel_rfl); (focus kernel_rfl); (focus kernel_rfl); (focus (exact ⟨p3, pt⟩))) | (refine anyX_takeU (i := 10) rfl rfl (by kernel_rfl) (by kernel_rfl) (by kernel_rfl) (by kernel_rfl) (by exact ⟨p3, pt⟩) ?_)
  try walk_nrm
  first | (apply anyX_takeW (i := 11) rfl; (focus rfl); (focus (first | exact nx_of rfl | exact nx_nil rfl rfl | exact nx_int rfl rfl rfl)); (focus (rintro σ' w' ⟨s3, st⟩ d K hK; go_simp; exact hK)); (focus kernel_rfl); (focus kernel_rfl); (focus kernel_rfl); (focus kernel_rfl); (focus (exact ⟨p3, pt⟩))) | (refine anyX_takeU (i := 11) rfl rfl (by kernel_rfl) (by kernel_rfl) (by kernel_rfl) (by kernel_rfl) (by exact ⟨p3, pt⟩) ?_)
  try walk_nrm
  first | (apply anyX_takeW (i := 12) rfl; (focus rfl); (focus (first | exact nx_of rfl | exact nx_nil rfl rfl | exact nx_int rfl rfl rfl)); (focus (rintro σ' w' ⟨s3, st⟩ d K hK; go_simp; exact hK)); (focus kernel_rfl); (focus kernel_rfl); (focus kernel_rfl); (focus kernel_rfl); (focus (exact ⟨p3, pt⟩))) | (refine anyX_takeU (i := 12) rfl rfl (by kernel_rfl) (by kernel_rfl) (by kernel_rfl) (by kernel_rfl) (by exact ⟨p3, pt⟩) ?_)
  try walk_nrm
  first | (apply anyX_takeW (i := 13) rfl; (focus rfl); (focus (first | exact nx_of rfl | exact nx_nil rfl rfl | exact nx_int rfl rfl rfl)); (focus (rintro σ' w' ⟨s3, st⟩ d K hK; go_simp; exact hK)); (focus kernel_rfl); (focus kernel_rfl); (focus kernel_rfl); (focus kernel_rfl); (focus (exact ⟨p3, pt⟩))) | (refine anyX_takeU (i := 13) rfl rfl (by kernel_rfl) (by kernel_rfl) (by kernel_rfl) (by kernel_rfl) (by exact ⟨p3, pt⟩) ?_)
  try walk_nrm
  refine anyX_one (i := 2) (by kernel_rfl) (opX_call rfl (by rfl) rfl Try.func145 (by kernel_rfl) (by kernel_rfl) (pipe_at S.p S.pl S.n S.cap k p3 hn0 hn1) (by simp only [List.map_toArray, List.map_cons, List.map_nil] <;> rfl) ?_)
  rintro _ σ'' w'' ⟨rfl, e2, e3⟩
  rw [e2, e3]
  clear e2 e3 w'' σ''
  refine ⟨fun _ => ⟨p3, pt⟩, ?_⟩
  walk_nrm
  first | (apply anyX_takeW (i := 3) rfl; (focus rfl); (focus (first | exact nx_of rfl | exact nx_nil rfl rfl | exact nx_int rfl rfl rfl)); (focus (rintro σ' w' ⟨s3, st⟩ d K hK; go_simp; exact hK)); (focus kernel_rfl); (focus kernel_rfl); (focus kernel_rfl); (focus kernel_rfl); (focus (exact ⟨p3, pt⟩))) | (refine anyX_takeU (i := 3) rfl rfl (by kernel_rfl) (by kernel_rfl) (by kernel_rfl) (by kernel_rfl) (by exact ⟨p3, pt⟩) ?_)
  try walk_nrm
  first | (apply anyX_takeW (i := 4) rfl; (focus rfl); (focus (first | exact nx_of rfl | exact nx_nil rfl rfl | exact nx_int rfl rfl rfl)); (focus (rintro σ' w' ⟨s3, st⟩ d K hK; go_simp; exact hK)); (focus kernel_rfl); (focus kernel_rfl); (focus kernel_rfl); (focus kernel_rfl); (focus (exact ⟨p3, pt⟩))) | (refine anyX_takeU (i := 4) rfl rfl (by kernel_rfl) (by kernel_rfl) (by kernel_rfl) (by kernel_rfl) (by exact ⟨p3, pt⟩) ?_)
  try walk_nrm
  first | (apply anyX_takeW (i := 5) rfl; (focus rfl); (focus (first | exact nx_of rfl | exact nx_nil rfl rfl | exact nx_int rfl rfl rfl)); (focus (rintro σ' w' ⟨s3, st⟩ d K hK; go_simp; exact hK)); (focus kernel_rfl); (focus kernel_rfl); (focus kernel_rfl); (focus kernel_rfl); (focus (exact ⟨p3, pt⟩))) | (refine anyX_takeU (i := 5) rfl rfl (by kernel_rfl) (by kernel_rfl) (by kernel_rfl) (by kernel_rfl) (by exact ⟨p3, pt⟩) ?_)
  try walk_nrm
  refine anyX_one (i := 14) (by kernel_rfl) (opX_call rfl (by rfl) rfl Try.func62 (by kernel_rfl) (by kernel_rfl) (store_upd (U1.later (A.it j hj).2.1 hturn) (hoff _) ft) (by simp only [List.map_toArray, List.map_cons, List.map_nil] <;> rfl) ?_)
  rintro _ σ'' w2 ⟨rfl, e2, U2⟩
  rw [e2]
  clear e2 σ''
  refine ⟨fun _ => ⟨(L1.upd U2 (A.nt hj).1 (A.nt hj).2.1).p3, (L1.upd U2 (A.nt hj).1 (A.nt hj).2.1).lt j hj⟩, ?_⟩
  walk_nrm
  refine anyX_end (by kernel_rfl) ?_
  have L2 := L1.upd U2 (A.nt hj).1 (A.nt hj).2.1
  clear p0 p1 p2 p3 pt ps
  have p0 := L2.p0
  have p1 := L2.p1
  have p2 := L2.p2
  have p3 := L2.p3
  have pt := L2.lt j hj
  have ps := L2.ls j hj
  repeat (first
    | refine y_seq ?_
    | (refine y_region ?_; simp only [List.size_toArray, List.length_cons, List.length_nil, Nat.reduceAdd, Nat.zero_add, List.range, List.range.loop])
    | refine y_regionEnd ?_
    | (refine y_nw rfl (by rfl) rfl (by first | exact nx_of rfl | exact nx_nil rfl rfl | exact nx_int rfl rfl rfl) (fun dd hS K hK => ?_); go_simp; refine hK _ _ _ ?_; clear hK K hS dd; simp only [recOf]; try walk_nrm)
    | (refine y_unwanted rfl (by rfl) ?_; try walk_nrm)
    | (refine y_cond true rfl ?_; simp only [if_true])
    | (refine y_cond false rfl ?_; simp only [Bool.false_eq_true, if_false])
    | refine y_skip ?_ | refine y_block ?_ | refine y_inBlock ?_ | refine y_label ?_ | refine y_exit rfl ?_ | refine y_ret ?_ | refine y_end ?_ | refine y_scope ?_ | refine y_inScope ?_)
  refine y_callR rfl (by rfl) rfl rfl Try.func61 (by kernel_rfl) (by kernel_rfl) (add_upd (U2.later (A.nt hj).2.2 (U1.later A.nu.2.2 hbell)) (hoff _) fb) (by simp only [List.map_toArray, List.map_cons, List.map_nil] <;> rfl) ?_
  rintro _ σ'' w3 ⟨rfl, e2, U3⟩
  rw [e2]
  clear e2 σ''
  walk_nrm
  repeat (first
    | refine y_seq ?_
    | (refine y_region ?_; simp only [List.size_toArray, List.length_cons, List.length_nil, Nat.reduceAdd, Nat.zero_add, List.range, List.range.loop])
    | refine y_regionEnd ?_
    | (refine y_nw rfl (by rfl) rfl (by first | exact nx_of rfl | exact nx_nil rfl rfl | exact nx_int rfl rfl rfl) (fun dd hS K hK => ?_); go_simp; refine hK _ _ _ ?_; clear hK K hS dd; simp only [recOf]; try walk_nrm)
    | (refine y_unwanted rfl (by rfl) ?_; try walk_nrm)
    | (refine y_cond true rfl ?_; simp only [if_true])
    | (refine y_cond false rfl ?_; simp only [Bool.false_eq_true, if_false])
    | refine y_skip ?_ | refine y_block ?_ | refine y_inBlock ?_ | refine y_label ?_ | refine y_exit rfl ?_ | refine y_ret ?_ | refine y_end ?_ | refine y_scope ?_ | refine y_inScope ?_)
  refine y_leave rfl rfl Try.func106 (resultsC_tmp2 rfl _) ?_
  exact H _ _ _ ⟨rfl, rfl, w1, w2, U1, U2, U3⟩
end Go.Proofs.Ytcibnfjpagmdaaa
