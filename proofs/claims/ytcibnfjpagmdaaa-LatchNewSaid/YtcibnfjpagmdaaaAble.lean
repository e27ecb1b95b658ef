/- Who is ready: can, able. -/
import Derived.Test.YtcibnfjpagmdaaaBoard
set_option linter.unusedSimpArgs false
set_option linter.unusedVariables false
set_option maxRecDepth 100000
set_option maxHeartbeats 2000000
namespace Go.Proofs.Ytcibnfjpagmdaaa
open Go.TX Go.Conc Go.RowKit Go.MapKept

section
variable {J : Judge Try.prog} {σ : Cfg} {w : World} {A : GA} {j : Nat}

theorem can_calls (M : GMem A none w) (hj : j < A.p.nth) : CallsX J 208 #[.pointer (some ⟨A.tb j, 0, none⟩)] σ w fun v σ' w' => v = .bool (A.p.can j) ∧ σ' = σ ∧ w' = w := by
  have hb : A.p.st j ≠ .unborn := by have := (M.born j).1 hj; simpa using this
  have ht := M.thr j hj
  cases hs : A.p.st j with
  | unborn => exact absurd hs hb
  | ended =>
    have c13 : w.cell? ⟨A.tb j, 13, none⟩ = some (.bool true) := by rw [M.t13 hj]; simp [hs]
    have hc : A.p.can j = false := by simp [Pub.can, hs]
    rw [hc]
    clear hc hs ht
    refine callsX_body Try.func208 rfl fun c cs H HN => ?_
    simp only [Try.f208, Try.ntmps208, List.size_toArray, List.length_cons, List.length_nil, Nat.reduceAdd, Nat.reduceSub, Nat.zero_add, Array.replicate_succ, Array.replicate_zero, List.push_toArray, List.append_toArray, List.nil_append, List.cons_append, List.append_nil]
    replace M := Keep.mk M
    replace H := Keep.mk H
    replace hb := Keep.mk hb
    repeat (first
      | refine y_go rfl ?_
      | (refine y_region ?_; simp only [rg, Nat.reduceAdd, List.range, List.range.loop])
      | (refine y_nw rfl (by rfl) rfl (by exact nx rfl) (fun dd hS K hK => ?_); go_simp; refine hK _ _ _ ?_; clear hK K hS dd; simp only [recOf]; try walk_nrm)
      | (refine y_unwanted rfl (by rfl) ?_; try walk_nrm) | refine y_condT rfl ?_ | refine y_condF rfl ?_
      | refine y_block ?_ | refine y_label ?_ | refine y_ret ?_ | refine y_end ?_)
    refine y_drawnQ (fun _ w' => w'.cell? ⟨A.tb j, 13, none⟩ = some (.bool true)) (fun _ => false) (by kernel_rfl) rfl ?_
    simp only [List.size_toArray, List.length_cons, List.length_nil, Nat.reduceAdd, Nat.reduceSub, Nat.zero_add, Array.replicate_succ, Array.replicate_zero, List.push_toArray, List.append_toArray, List.nil_append, List.cons_append, List.append_nil]
    first | (apply anyX_tW (i := 0) rfl; (focus rfl); (focus (exact nx rfl)); (focus (rintro σ' w' s0 d K hK; go_simp; exact hK)); (focus kernel_rfl); (focus (assumption))) | (refine anyX_tU (i := 0) rfl rfl (by kernel_rfl) (by assumption) ?_)
    try walk_nrm
    first | (apply anyX_tW (i := 1) rfl; (focus rfl); (focus (exact nx rfl)); (focus (rintro σ' w' s0 d K hK; go_simp; exact hK)); (focus kernel_rfl); (focus (assumption))) | (refine anyX_tU (i := 1) rfl rfl (by kernel_rfl) (by assumption) ?_)
    try walk_nrm
    first | (apply anyX_tW (i := 2) rfl; (focus rfl); (focus (exact nx rfl)); (focus (rintro σ' w' s0 d K hK; go_simp; exact hK)); (focus kernel_rfl); (focus (assumption))) | (refine anyX_tU (i := 2) rfl rfl (by kernel_rfl) (by assumption) ?_)
    try walk_nrm
    first | (apply anyX_tW (i := 3) rfl; (focus rfl); (focus (exact nx rfl)); (focus (rintro σ' w' s0 d K hK; go_simp; exact hK)); (focus kernel_rfl); (focus (assumption))) | (refine anyX_tU (i := 3) rfl rfl (by kernel_rfl) (by assumption) ?_)
    try walk_nrm
    first | (apply anyX_tW (i := 4) rfl; (focus rfl); (focus (exact nx rfl)); (focus (rintro σ' w' s0 d K hK; go_simp; exact hK)); (focus kernel_rfl); (focus (assumption))) | (refine anyX_tU (i := 4) rfl rfl (by kernel_rfl) (by assumption) ?_)
    try walk_nrm
    first | (apply anyX_tW (i := 5) rfl; (focus rfl); (focus (exact nx rfl)); (focus (rintro σ' w' s0 d K hK; go_simp; exact hK)); (focus kernel_rfl); (focus (assumption))) | (refine anyX_tU (i := 5) rfl rfl (by kernel_rfl) (by assumption) ?_)
    try walk_nrm
    first | (apply anyX_tW (i := 6) rfl; (focus rfl); (focus (exact nx rfl)); (focus (rintro σ' w' s0 d K hK; go_simp; exact hK)); (focus kernel_rfl); (focus (assumption))) | (refine anyX_tU (i := 6) rfl rfl (by kernel_rfl) (by assumption) ?_)
    try walk_nrm
    first | (apply anyX_tW (i := 7) rfl; (focus rfl); (focus (exact nx rfl)); (focus (rintro σ' w' s0 d K hK; go_simp; exact hK)); (focus kernel_rfl); (focus (assumption))) | (refine anyX_tU (i := 7) rfl rfl (by kernel_rfl) (by assumption) ?_)
    try walk_nrm
    first | (apply anyX_tW (i := 8) rfl; (focus rfl); (focus (exact nx rfl)); (focus (rintro σ' w' s0 d K hK; go_simp; exact hK)); (focus kernel_rfl); (focus (assumption))) | (refine anyX_tU (i := 8) rfl rfl (by kernel_rfl) (by assumption) ?_)
    try walk_nrm
    first | (apply anyX_tW (i := 9) rfl; (focus rfl); (focus (exact nx rfl)); (focus (rintro σ' w' s0 d K hK; go_simp; exact hK)); (focus kernel_rfl); (focus (assumption))) | (refine anyX_tU (i := 9) rfl rfl (by kernel_rfl) (by assumption) ?_)
    try walk_nrm
    first | (apply anyX_tW (i := 10) rfl; (focus rfl); (focus (exact nx rfl)); (focus (rintro σ' w' s0 d K hK; go_simp; exact hK)); (focus kernel_rfl); (focus (assumption))) | (refine anyX_tU (i := 10) rfl rfl (by kernel_rfl) (by assumption) ?_)
    try walk_nrm
    first | (apply anyX_tW (i := 11) rfl; (focus rfl); (focus (exact nx rfl)); (focus (rintro σ' w' s0 d K hK; go_simp; exact hK)); (focus kernel_rfl); (focus (assumption))) | (refine anyX_tU (i := 11) rfl rfl (by kernel_rfl) (by assumption) ?_)
    try walk_nrm
    first | (apply anyX_tW (i := 12) rfl; (focus rfl); (focus (exact nx rfl)); (focus (rintro σ' w' s0 d K hK; go_simp; exact hK)); (focus kernel_rfl); (focus (assumption))) | (refine anyX_tU (i := 12) rfl rfl (by kernel_rfl) (by assumption) ?_)
    try walk_nrm
    first | (apply anyX_tW (i := 13) rfl; (focus rfl); (focus (exact nx rfl)); (focus (rintro σ' w' s0 d K hK; go_simp; exact hK)); (focus kernel_rfl); (focus (assumption))) | (refine anyX_tU (i := 13) rfl rfl (by kernel_rfl) (by assumption) ?_)
    try walk_nrm
    first | (apply anyX_tW (i := 14) rfl; (focus rfl); (focus (exact nx rfl)); (focus (rintro σ' w' s0 d K hK; go_simp; exact hK)); (focus kernel_rfl); (focus (assumption))) | (refine anyX_tU (i := 14) rfl rfl (by kernel_rfl) (by assumption) ?_)
    try walk_nrm
    first | (apply anyX_tW (i := 15) rfl; (focus rfl); (focus (exact nx rfl)); (focus (rintro σ' w' s0 d K hK; go_simp; exact hK)); (focus kernel_rfl); (focus (assumption))) | (refine anyX_tU (i := 15) rfl rfl (by kernel_rfl) (by assumption) ?_)
    try walk_nrm
    first | (apply anyX_tW (i := 16) rfl; (focus rfl); (focus (exact nx rfl)); (focus (rintro σ' w' s0 d K hK; go_simp; exact hK)); (focus kernel_rfl); (focus (assumption))) | (refine anyX_tU (i := 16) rfl rfl (by kernel_rfl) (by assumption) ?_)
    try walk_nrm
    first | (apply anyX_tW (i := 17) rfl; (focus rfl); (focus (exact nx rfl)); (focus (rintro σ' w' s0 d K hK; go_simp; exact hK)); (focus kernel_rfl); (focus (assumption))) | (refine anyX_tU (i := 17) rfl rfl (by kernel_rfl) (by assumption) ?_)
    try walk_nrm
    first | (apply anyX_tW (i := 18) rfl; (focus rfl); (focus (exact nx rfl)); (focus (rintro σ' w' s0 d K hK; go_simp; exact hK)); (focus kernel_rfl); (focus (assumption))) | (refine anyX_tU (i := 18) rfl rfl (by kernel_rfl) (by assumption) ?_)
    try walk_nrm
    first | (apply anyX_tW (i := 19) rfl; (focus rfl); (focus (exact nx rfl)); (focus (rintro σ' w' s0 d K hK; go_simp; exact hK)); (focus kernel_rfl); (focus (assumption))) | (refine anyX_tU (i := 19) rfl rfl (by kernel_rfl) (by assumption) ?_)
    try walk_nrm
    first | (apply anyX_tW (i := 20) rfl; (focus rfl); (focus (exact nx rfl)); (focus (rintro σ' w' s0 d K hK; go_simp; exact hK)); (focus kernel_rfl); (focus (assumption))) | (refine anyX_tU (i := 20) rfl rfl (by kernel_rfl) (by assumption) ?_)
    try walk_nrm
    first | (apply anyX_tW (i := 21) rfl; (focus rfl); (focus (exact nx rfl)); (focus (rintro σ' w' s0 d K hK; go_simp; exact hK)); (focus kernel_rfl); (focus (assumption))) | (refine anyX_tU (i := 21) rfl rfl (by kernel_rfl) (by assumption) ?_)
    try walk_nrm
    first | (apply anyX_tW (i := 22) rfl; (focus rfl); (focus (exact nx rfl)); (focus (rintro σ' w' s0 d K hK; go_simp; exact hK)); (focus kernel_rfl); (focus (assumption))) | (refine anyX_tU (i := 22) rfl rfl (by kernel_rfl) (by assumption) ?_)
    try walk_nrm
    first | (apply anyX_tW (i := 23) rfl; (focus rfl); (focus (exact nx rfl)); (focus (rintro σ' w' s0 d K hK; go_simp; exact hK)); (focus kernel_rfl); (focus (assumption))) | (refine anyX_tU (i := 23) rfl rfl (by kernel_rfl) (by assumption) ?_)
    try walk_nrm
    first | (apply anyX_tW (i := 24) rfl; (focus rfl); (focus (exact nx rfl)); (focus (rintro σ' w' s0 d K hK; go_simp; exact hK)); (focus kernel_rfl); (focus (assumption))) | (refine anyX_tU (i := 24) rfl rfl (by kernel_rfl) (by assumption) ?_)
    try walk_nrm
    first | (apply anyX_tW (i := 25) rfl; (focus rfl); (focus (exact nx rfl)); (focus (rintro σ' w' s0 d K hK; go_simp; exact hK)); (focus kernel_rfl); (focus (assumption))) | (refine anyX_tU (i := 25) rfl rfl (by kernel_rfl) (by assumption) ?_)
    try walk_nrm
    first | (apply anyX_tW (i := 26) rfl; (focus rfl); (focus (exact nx rfl)); (focus (rintro σ' w' s0 d K hK; go_simp; exact hK)); (focus kernel_rfl); (focus (assumption))) | (refine anyX_tU (i := 26) rfl rfl (by kernel_rfl) (by assumption) ?_)
    try walk_nrm
    refine anyX_end (by kernel_rfl) ?_
    repeat (first
      | refine y_go rfl ?_
      | (refine y_region ?_; simp only [rg, Nat.reduceAdd, List.range, List.range.loop])
      | (refine y_nw rfl (by rfl) rfl (by exact nx rfl) (fun dd hS K hK => ?_); go_simp; refine hK _ _ _ ?_; clear hK K hS dd; simp only [recOf]; try walk_nrm)
      | (refine y_unwanted rfl (by rfl) ?_; try walk_nrm) | refine y_condT rfl ?_ | refine y_condF rfl ?_
      | refine y_block ?_ | refine y_label ?_ | refine y_ret ?_ | refine y_end ?_)
    refine y_leave rfl rfl Try.func208 (resultsC_tmp rfl _) ?_
    exact H.out _ _ _ ⟨rfl, rfl, rfl⟩
  | stands a =>
    obtain ⟨h1, h2, h3, h4, _⟩ := M.stand j a hj (by simp) hs
    have c13 : w.cell? ⟨A.tb j, 13, none⟩ = some (.bool false) := by rw [M.t13 hj]; simp [hs]
    have c4 : w.cell? ⟨A.tb j, 4, none⟩ = some (.pointer (some ⟨a.cell, 0, none⟩)) := by unfold World.cell?; rw [ht]; simp [thrObj, thrCells, h1]
    have c6 : w.cell? ⟨A.tb j, 6, none⟩ = some (.int .i8 a.op) := by unfold World.cell?; rw [ht]; simp [thrObj, thrCells, h2, Acc.stand]
    have c8 : w.cell? ⟨A.tb j, 8, none⟩ = some (.int .i64 a.arg) := by unfold World.cell?; rw [ht]; simp [thrObj, thrCells, h2, Acc.stand]
    have hv := M.cell a.cell h3
    by_cases e6 : a.op = 6
    · have hc : A.p.can j = !(decide (A.p.cv a.cell = a.arg)) := by simp [Pub.can, hs, e6]
      rw [hc]
      rw [e6] at c6
      clear hc hs ht h1 h2 e6
      refine callsX_body Try.func208 rfl fun c cs H HN => ?_
      simp only [Try.f208, Try.ntmps208, List.size_toArray, List.length_cons, List.length_nil, Nat.reduceAdd, Nat.reduceSub, Nat.zero_add, Array.replicate_succ, Array.replicate_zero, List.push_toArray, List.append_toArray, List.nil_append, List.cons_append, List.append_nil]
      replace M := Keep.mk M
      replace H := Keep.mk H
      replace hb := Keep.mk hb
      replace h4 := Keep.mk h4
      replace hv := Keep.mk hv
      repeat (first
        | refine y_go rfl ?_
        | (refine y_region ?_; simp only [rg, Nat.reduceAdd, List.range, List.range.loop])
        | (refine y_nw rfl (by rfl) rfl (by exact nx rfl) (fun dd hS K hK => ?_); go_simp; refine hK _ _ _ ?_; clear hK K hS dd; simp only [recOf]; try walk_nrm)
        | (refine y_unwanted rfl (by rfl) ?_; try walk_nrm) | refine y_condT rfl ?_ | refine y_condF rfl ?_
        | refine y_block ?_ | refine y_label ?_ | refine y_ret ?_ | refine y_end ?_)
      refine y_drawnQ (fun _ w' => w'.cell? ⟨A.tb j, 13, none⟩ = some (.bool false) ∧ w'.cell? ⟨A.tb j, 4, none⟩ = some (.pointer (some ⟨a.cell, 0, none⟩)) ∧ w'.cell? ⟨A.tb j, 6, none⟩ = some (.int .i8 6) ∧ w'.cell? ⟨A.tb j, 8, none⟩ = some (.int .i64 a.arg)) (fun _ => false) (by kernel_rfl) rfl ?_
      simp only [List.size_toArray, List.length_cons, List.length_nil, Nat.reduceAdd, Nat.reduceSub, Nat.zero_add, Array.replicate_succ, Array.replicate_zero, List.push_toArray, List.append_toArray, List.nil_append, List.cons_append, List.append_nil]
      first | (apply anyX_tW (i := 0) rfl; (focus rfl); (focus (exact nx rfl)); (focus (rintro σ' w' ⟨s0, s1, s2, s3⟩ d K hK; go_simp; exact hK)); (focus kernel_rfl); (focus (exact ⟨c13, c4, c6, c8⟩))) | (refine anyX_tU (i := 0) rfl rfl (by kernel_rfl) (by exact ⟨c13, c4, c6, c8⟩) ?_)
      try walk_nrm
      first | (apply anyX_tW (i := 1) rfl; (focus rfl); (focus (exact nx rfl)); (focus (rintro σ' w' ⟨s0, s1, s2, s3⟩ d K hK; go_simp; exact hK)); (focus kernel_rfl); (focus (exact ⟨c13, c4, c6, c8⟩))) | (refine anyX_tU (i := 1) rfl rfl (by kernel_rfl) (by exact ⟨c13, c4, c6, c8⟩) ?_)
      try walk_nrm
      first | (apply anyX_tW (i := 2) rfl; (focus rfl); (focus (exact nx rfl)); (focus (rintro σ' w' ⟨s0, s1, s2, s3⟩ d K hK; go_simp; exact hK)); (focus kernel_rfl); (focus (exact ⟨c13, c4, c6, c8⟩))) | (refine anyX_tU (i := 2) rfl rfl (by kernel_rfl) (by exact ⟨c13, c4, c6, c8⟩) ?_)
      try walk_nrm
      first | (apply anyX_tW (i := 3) rfl; (focus rfl); (focus (exact nx rfl)); (focus (rintro σ' w' ⟨s0, s1, s2, s3⟩ d K hK; go_simp; exact hK)); (focus kernel_rfl); (focus (exact ⟨c13, c4, c6, c8⟩))) | (refine anyX_tU (i := 3) rfl rfl (by kernel_rfl) (by exact ⟨c13, c4, c6, c8⟩) ?_)
      try walk_nrm
      first | (apply anyX_tW (i := 4) rfl; (focus rfl); (focus (exact nx rfl)); (focus (rintro σ' w' ⟨s0, s1, s2, s3⟩ d K hK; go_simp; exact hK)); (focus kernel_rfl); (focus (exact ⟨c13, c4, c6, c8⟩))) | (refine anyX_tU (i := 4) rfl rfl (by kernel_rfl) (by exact ⟨c13, c4, c6, c8⟩) ?_)
      try walk_nrm
      first | (apply anyX_tW (i := 5) rfl; (focus rfl); (focus (exact nx rfl)); (focus (rintro σ' w' ⟨s0, s1, s2, s3⟩ d K hK; go_simp; exact hK)); (focus kernel_rfl); (focus (exact ⟨c13, c4, c6, c8⟩))) | (refine anyX_tU (i := 5) rfl rfl (by kernel_rfl) (by exact ⟨c13, c4, c6, c8⟩) ?_)
      try walk_nrm
      first | (apply anyX_tW (i := 6) rfl; (focus rfl); (focus (exact nx rfl)); (focus (rintro σ' w' ⟨s0, s1, s2, s3⟩ d K hK; go_simp; exact hK)); (focus kernel_rfl); (focus (exact ⟨c13, c4, c6, c8⟩))) | (refine anyX_tU (i := 6) rfl rfl (by kernel_rfl) (by exact ⟨c13, c4, c6, c8⟩) ?_)
      try walk_nrm
      first | (apply anyX_tW (i := 7) rfl; (focus rfl); (focus (exact nx rfl)); (focus (rintro σ' w' ⟨s0, s1, s2, s3⟩ d K hK; go_simp; exact hK)); (focus kernel_rfl); (focus (exact ⟨c13, c4, c6, c8⟩))) | (refine anyX_tU (i := 7) rfl rfl (by kernel_rfl) (by exact ⟨c13, c4, c6, c8⟩) ?_)
      try walk_nrm
      first | (apply anyX_tW (i := 8) rfl; (focus rfl); (focus (exact nx rfl)); (focus (rintro σ' w' ⟨s0, s1, s2, s3⟩ d K hK; go_simp; exact hK)); (focus kernel_rfl); (focus (exact ⟨c13, c4, c6, c8⟩))) | (refine anyX_tU (i := 8) rfl rfl (by kernel_rfl) (by exact ⟨c13, c4, c6, c8⟩) ?_)
      try walk_nrm
      first | (apply anyX_tW (i := 9) rfl; (focus rfl); (focus (exact nx rfl)); (focus (rintro σ' w' ⟨s0, s1, s2, s3⟩ d K hK; go_simp; exact hK)); (focus kernel_rfl); (focus (exact ⟨c13, c4, c6, c8⟩))) | (refine anyX_tU (i := 9) rfl rfl (by kernel_rfl) (by exact ⟨c13, c4, c6, c8⟩) ?_)
      try walk_nrm
      first | (apply anyX_tW (i := 10) rfl; (focus rfl); (focus (exact nx rfl)); (focus (rintro σ' w' ⟨s0, s1, s2, s3⟩ d K hK; go_simp; exact hK)); (focus kernel_rfl); (focus (exact ⟨c13, c4, c6, c8⟩))) | (refine anyX_tU (i := 10) rfl rfl (by kernel_rfl) (by exact ⟨c13, c4, c6, c8⟩) ?_)
      try walk_nrm
      first | (apply anyX_tW (i := 11) rfl; (focus rfl); (focus (exact nx rfl)); (focus (rintro σ' w' ⟨s0, s1, s2, s3⟩ d K hK; go_simp; exact hK)); (focus kernel_rfl); (focus (exact ⟨c13, c4, c6, c8⟩))) | (refine anyX_tU (i := 11) rfl rfl (by kernel_rfl) (by exact ⟨c13, c4, c6, c8⟩) ?_)
      try walk_nrm
      first | (apply anyX_tW (i := 12) rfl; (focus rfl); (focus (exact nx rfl)); (focus (rintro σ' w' ⟨s0, s1, s2, s3⟩ d K hK; go_simp; exact hK)); (focus kernel_rfl); (focus (exact ⟨c13, c4, c6, c8⟩))) | (refine anyX_tU (i := 12) rfl rfl (by kernel_rfl) (by exact ⟨c13, c4, c6, c8⟩) ?_)
      try walk_nrm
      first | (apply anyX_tW (i := 13) rfl; (focus rfl); (focus (exact nx rfl)); (focus (rintro σ' w' ⟨s0, s1, s2, s3⟩ d K hK; go_simp; exact hK)); (focus kernel_rfl); (focus (exact ⟨c13, c4, c6, c8⟩))) | (refine anyX_tU (i := 13) rfl rfl (by kernel_rfl) (by exact ⟨c13, c4, c6, c8⟩) ?_)
      try walk_nrm
      first | (apply anyX_tW (i := 14) rfl; (focus rfl); (focus (exact nx rfl)); (focus (rintro σ' w' ⟨s0, s1, s2, s3⟩ d K hK; go_simp; exact hK)); (focus kernel_rfl); (focus (exact ⟨c13, c4, c6, c8⟩))) | (refine anyX_tU (i := 14) rfl rfl (by kernel_rfl) (by exact ⟨c13, c4, c6, c8⟩) ?_)
      try walk_nrm
      first | (apply anyX_tW (i := 15) rfl; (focus rfl); (focus (exact nx rfl)); (focus (rintro σ' w' ⟨s0, s1, s2, s3⟩ d K hK; go_simp; exact hK)); (focus kernel_rfl); (focus (exact ⟨c13, c4, c6, c8⟩))) | (refine anyX_tU (i := 15) rfl rfl (by kernel_rfl) (by exact ⟨c13, c4, c6, c8⟩) ?_)
      try walk_nrm
      first | (apply anyX_tW (i := 16) rfl; (focus rfl); (focus (exact nx rfl)); (focus (rintro σ' w' ⟨s0, s1, s2, s3⟩ d K hK; go_simp; exact hK)); (focus kernel_rfl); (focus (exact ⟨c13, c4, c6, c8⟩))) | (refine anyX_tU (i := 16) rfl rfl (by kernel_rfl) (by exact ⟨c13, c4, c6, c8⟩) ?_)
      try walk_nrm
      first | (apply anyX_tW (i := 18) rfl; (focus rfl); (focus (exact nx rfl)); (focus (rintro σ' w' ⟨s0, s1, s2, s3⟩ d K hK; go_simp; exact hK)); (focus kernel_rfl); (focus (exact ⟨c13, c4, c6, c8⟩))) | (refine anyX_tU (i := 18) rfl rfl (by kernel_rfl) (by exact ⟨c13, c4, c6, c8⟩) ?_)
      try walk_nrm
      first | (apply anyX_tW (i := 19) rfl; (focus rfl); (focus (exact nx rfl)); (focus (rintro σ' w' ⟨s0, s1, s2, s3⟩ d K hK; go_simp; exact hK)); (focus kernel_rfl); (focus (exact ⟨c13, c4, c6, c8⟩))) | (refine anyX_tU (i := 19) rfl rfl (by kernel_rfl) (by exact ⟨c13, c4, c6, c8⟩) ?_)
      try walk_nrm
      first | (apply anyX_tW (i := 20) rfl; (focus rfl); (focus (exact nx rfl)); (focus (rintro σ' w' ⟨s0, s1, s2, s3⟩ d K hK; go_simp; exact hK)); (focus kernel_rfl); (focus (exact ⟨c13, c4, c6, c8⟩))) | (refine anyX_tU (i := 20) rfl rfl (by kernel_rfl) (by exact ⟨c13, c4, c6, c8⟩) ?_)
      try walk_nrm
      first | (apply anyX_tW (i := 21) rfl; (focus rfl); (focus (exact nx rfl)); (focus (rintro σ' w' ⟨s0, s1, s2, s3⟩ d K hK; go_simp; exact hK)); (focus kernel_rfl); (focus (exact ⟨c13, c4, c6, c8⟩))) | (refine anyX_tU (i := 21) rfl rfl (by kernel_rfl) (by exact ⟨c13, c4, c6, c8⟩) ?_)
      try walk_nrm
      first | (apply anyX_tW (i := 22) rfl; (focus rfl); (focus (exact nx rfl)); (focus (rintro σ' w' ⟨s0, s1, s2, s3⟩ d K hK; go_simp; exact hK)); (focus kernel_rfl); (focus (exact ⟨c13, c4, c6, c8⟩))) | (refine anyX_tU (i := 22) rfl rfl (by kernel_rfl) (by exact ⟨c13, c4, c6, c8⟩) ?_)
      try walk_nrm
      refine anyX_one (i := 17) (by kernel_rfl) (opX_call rfl (by rfl) rfl Try.func141 (by kernel_rfl) (by kernel_rfl) (i64_load ⟨a.cell, 0, none⟩ _ hv.out.v) (by simp only [List.map_toArray, List.map_cons, List.map_nil] <;> rfl) ?_)
      rintro _ σ'' w'' ⟨rfl, e2, e3⟩
      rw [e2, e3]
      clear e2 e3 w'' σ''
      refine ⟨fun _ => ⟨c13, c4, c6, c8⟩, ?_⟩
      walk_nrm
      first | (apply anyX_tW (i := 23) rfl; (focus rfl); (focus (exact nx rfl)); (focus (rintro σ' w' ⟨s0, s1, s2, s3⟩ d K hK; go_simp; exact hK)); (focus kernel_rfl); (focus (exact ⟨c13, c4, c6, c8⟩))) | (refine anyX_tU (i := 23) rfl rfl (by kernel_rfl) (by exact ⟨c13, c4, c6, c8⟩) ?_)
      try walk_nrm
      first | (apply anyX_tW (i := 24) rfl; (focus rfl); (focus (exact nx rfl)); (focus (rintro σ' w' ⟨s0, s1, s2, s3⟩ d K hK; go_simp; exact hK)); (focus kernel_rfl); (focus (exact ⟨c13, c4, c6, c8⟩))) | (refine anyX_tU (i := 24) rfl rfl (by kernel_rfl) (by exact ⟨c13, c4, c6, c8⟩) ?_)
      try walk_nrm
      first | (apply anyX_tW (i := 25) rfl; (focus rfl); (focus (exact nx rfl)); (focus (rintro σ' w' ⟨s0, s1, s2, s3⟩ d K hK; go_simp; exact hK)); (focus kernel_rfl); (focus (exact ⟨c13, c4, c6, c8⟩))) | (refine anyX_tU (i := 25) rfl rfl (by kernel_rfl) (by exact ⟨c13, c4, c6, c8⟩) ?_)
      try walk_nrm
      first | (apply anyX_tW (i := 26) rfl; (focus rfl); (focus (exact nx rfl)); (focus (rintro σ' w' ⟨s0, s1, s2, s3⟩ d K hK; go_simp; exact hK)); (focus kernel_rfl); (focus (exact ⟨c13, c4, c6, c8⟩))) | (refine anyX_tU (i := 26) rfl rfl (by kernel_rfl) (by exact ⟨c13, c4, c6, c8⟩) ?_)
      try walk_nrm
      refine anyX_end (by kernel_rfl) ?_
      repeat (first
        | refine y_go rfl ?_
        | (refine y_region ?_; simp only [rg, Nat.reduceAdd, List.range, List.range.loop])
        | (refine y_nw rfl (by rfl) rfl (by exact nx rfl) (fun dd hS K hK => ?_); go_simp; refine hK _ _ _ ?_; clear hK K hS dd; simp only [recOf]; try walk_nrm)
        | (refine y_unwanted rfl (by rfl) ?_; try walk_nrm) | refine y_condT rfl ?_ | refine y_condF rfl ?_
        | refine y_block ?_ | refine y_label ?_ | refine y_ret ?_ | refine y_end ?_)
      refine y_leave rfl rfl Try.func208 (resultsC_tmp rfl _) ?_
      exact H.out _ _ _ ⟨by by_cases h : A.p.cv a.cell = a.arg <;> simp [h], rfl, rfl⟩
    · have hc : A.p.can j = true := by simp [Pub.can, hs, e6]
      rw [hc]
      have e7 : ((a.op : Int) != 6) = true := by simp; omega
      clear hc hs ht h1 h2 e6
      refine callsX_body Try.func208 rfl fun c cs H HN => ?_
      simp only [Try.f208, Try.ntmps208, List.size_toArray, List.length_cons, List.length_nil, Nat.reduceAdd, Nat.reduceSub, Nat.zero_add, Array.replicate_succ, Array.replicate_zero, List.push_toArray, List.append_toArray, List.nil_append, List.cons_append, List.append_nil]
      replace M := Keep.mk M
      replace H := Keep.mk H
      replace hb := Keep.mk hb
      replace h4 := Keep.mk h4
      replace hv := Keep.mk hv
      repeat (first
        | refine y_go rfl ?_
        | (refine y_region ?_; simp only [rg, Nat.reduceAdd, List.range, List.range.loop])
        | (refine y_nw rfl (by rfl) rfl (by exact nx rfl) (fun dd hS K hK => ?_); go_simp; refine hK _ _ _ ?_; clear hK K hS dd; simp only [recOf]; try walk_nrm)
        | (refine y_unwanted rfl (by rfl) ?_; try walk_nrm) | refine y_condT rfl ?_ | refine y_condF rfl ?_
        | refine y_block ?_ | refine y_label ?_ | refine y_ret ?_ | refine y_end ?_)
      refine y_drawnQ (fun _ w' => w'.cell? ⟨A.tb j, 13, none⟩ = some (.bool false) ∧ w'.cell? ⟨A.tb j, 4, none⟩ = some (.pointer (some ⟨a.cell, 0, none⟩)) ∧ w'.cell? ⟨A.tb j, 6, none⟩ = some (.int .i8 a.op) ∧ w'.cell? ⟨A.tb j, 8, none⟩ = some (.int .i64 a.arg)) (fun _ => false) (by kernel_rfl) rfl ?_
      simp only [List.size_toArray, List.length_cons, List.length_nil, Nat.reduceAdd, Nat.reduceSub, Nat.zero_add, Array.replicate_succ, Array.replicate_zero, List.push_toArray, List.append_toArray, List.nil_append, List.cons_append, List.append_nil]
      first | (apply anyX_tW (i := 0) rfl; (focus rfl); (focus (exact nx rfl)); (focus (rintro σ' w' ⟨s0, s1, s2, s3⟩ d K hK; go_simp; exact hK)); (focus kernel_rfl); (focus (exact ⟨c13, c4, c6, c8⟩))) | (refine anyX_tU (i := 0) rfl rfl (by kernel_rfl) (by exact ⟨c13, c4, c6, c8⟩) ?_)
      try walk_nrm
      first | (apply anyX_tW (i := 1) rfl; (focus rfl); (focus (exact nx rfl)); (focus (rintro σ' w' ⟨s0, s1, s2, s3⟩ d K hK; go_simp; exact hK)); (focus kernel_rfl); (focus (exact ⟨c13, c4, c6, c8⟩))) | (refine anyX_tU (i := 1) rfl rfl (by kernel_rfl) (by exact ⟨c13, c4, c6, c8⟩) ?_)
      try walk_nrm
      first | (apply anyX_tW (i := 2) rfl; (focus rfl); (focus (exact nx rfl)); (focus (rintro σ' w' ⟨s0, s1, s2, s3⟩ d K hK; go_simp; exact hK)); (focus kernel_rfl); (focus (exact ⟨c13, c4, c6, c8⟩))) | (refine anyX_tU (i := 2) rfl rfl (by kernel_rfl) (by exact ⟨c13, c4, c6, c8⟩) ?_)
      try walk_nrm
      first | (apply anyX_tW (i := 3) rfl; (focus rfl); (focus (exact nx rfl)); (focus (rintro σ' w' ⟨s0, s1, s2, s3⟩ d K hK; go_simp; exact hK)); (focus kernel_rfl); (focus (exact ⟨c13, c4, c6, c8⟩))) | (refine anyX_tU (i := 3) rfl rfl (by kernel_rfl) (by exact ⟨c13, c4, c6, c8⟩) ?_)
      try walk_nrm
      first | (apply anyX_tW (i := 4) rfl; (focus rfl); (focus (exact nx rfl)); (focus (rintro σ' w' ⟨s0, s1, s2, s3⟩ d K hK; go_simp; exact hK)); (focus kernel_rfl); (focus (exact ⟨c13, c4, c6, c8⟩))) | (refine anyX_tU (i := 4) rfl rfl (by kernel_rfl) (by exact ⟨c13, c4, c6, c8⟩) ?_)
      try walk_nrm
      first | (apply anyX_tW (i := 5) rfl; (focus rfl); (focus (exact nx rfl)); (focus (rintro σ' w' ⟨s0, s1, s2, s3⟩ d K hK; go_simp; exact hK)); (focus kernel_rfl); (focus (exact ⟨c13, c4, c6, c8⟩))) | (refine anyX_tU (i := 5) rfl rfl (by kernel_rfl) (by exact ⟨c13, c4, c6, c8⟩) ?_)
      try walk_nrm
      first | (apply anyX_tW (i := 6) rfl; (focus rfl); (focus (exact nx rfl)); (focus (rintro σ' w' ⟨s0, s1, s2, s3⟩ d K hK; go_simp; exact hK)); (focus kernel_rfl); (focus (exact ⟨c13, c4, c6, c8⟩))) | (refine anyX_tU (i := 6) rfl rfl (by kernel_rfl) (by exact ⟨c13, c4, c6, c8⟩) ?_)
      try walk_nrm
      first | (apply anyX_tW (i := 7) rfl; (focus rfl); (focus (exact nx rfl)); (focus (rintro σ' w' ⟨s0, s1, s2, s3⟩ d K hK; go_simp; exact hK)); (focus kernel_rfl); (focus (exact ⟨c13, c4, c6, c8⟩))) | (refine anyX_tU (i := 7) rfl rfl (by kernel_rfl) (by exact ⟨c13, c4, c6, c8⟩) ?_)
      try walk_nrm
      first | (apply anyX_tW (i := 8) rfl; (focus rfl); (focus (exact nx rfl)); (focus (rintro σ' w' ⟨s0, s1, s2, s3⟩ d K hK; go_simp; exact hK)); (focus kernel_rfl); (focus (exact ⟨c13, c4, c6, c8⟩))) | (refine anyX_tU (i := 8) rfl rfl (by kernel_rfl) (by exact ⟨c13, c4, c6, c8⟩) ?_)
      try walk_nrm
      first | (apply anyX_tW (i := 9) rfl; (focus rfl); (focus (exact nx rfl)); (focus (rintro σ' w' ⟨s0, s1, s2, s3⟩ d K hK; go_simp; exact hK)); (focus kernel_rfl); (focus (exact ⟨c13, c4, c6, c8⟩))) | (refine anyX_tU (i := 9) rfl rfl (by kernel_rfl) (by exact ⟨c13, c4, c6, c8⟩) ?_)
      try walk_nrm
      first | (apply anyX_tW (i := 10) rfl; (focus rfl); (focus (exact nx rfl)); (focus (rintro σ' w' ⟨s0, s1, s2, s3⟩ d K hK; go_simp; exact hK)); (focus kernel_rfl); (focus (exact ⟨c13, c4, c6, c8⟩))) | (refine anyX_tU (i := 10) rfl rfl (by kernel_rfl) (by exact ⟨c13, c4, c6, c8⟩) ?_)
      try walk_nrm
      first | (apply anyX_tW (i := 11) rfl; (focus rfl); (focus (exact nx rfl)); (focus (rintro σ' w' ⟨s0, s1, s2, s3⟩ d K hK; go_simp; exact hK)); (focus kernel_rfl); (focus (exact ⟨c13, c4, c6, c8⟩))) | (refine anyX_tU (i := 11) rfl rfl (by kernel_rfl) (by exact ⟨c13, c4, c6, c8⟩) ?_)
      try walk_nrm
      first | (apply anyX_tW (i := 12) rfl; (focus rfl); (focus (exact nx rfl)); (focus (rintro σ' w' ⟨s0, s1, s2, s3⟩ d K hK; go_simp; exact hK)); (focus kernel_rfl); (focus (exact ⟨c13, c4, c6, c8⟩))) | (refine anyX_tU (i := 12) rfl rfl (by kernel_rfl) (by exact ⟨c13, c4, c6, c8⟩) ?_)
      try walk_nrm
      first | (apply anyX_tW (i := 13) rfl; (focus rfl); (focus (exact nx rfl)); (focus (rintro σ' w' ⟨s0, s1, s2, s3⟩ d K hK; go_simp; exact hK)); (focus kernel_rfl); (focus (exact ⟨c13, c4, c6, c8⟩))) | (refine anyX_tU (i := 13) rfl rfl (by kernel_rfl) (by exact ⟨c13, c4, c6, c8⟩) ?_)
      try walk_nrm
      first | (apply anyX_tW (i := 14) rfl; (focus rfl); (focus (exact nx rfl)); (focus (rintro σ' w' ⟨s0, s1, s2, s3⟩ d K hK; go_simp; exact hK)); (focus kernel_rfl); (focus (exact ⟨c13, c4, c6, c8⟩))) | (refine anyX_tU (i := 14) rfl rfl (by kernel_rfl) (by exact ⟨c13, c4, c6, c8⟩) ?_)
      try walk_nrm
      first | (apply anyX_tW (i := 15) rfl; (focus rfl); (focus (exact nx rfl)); (focus (rintro σ' w' ⟨s0, s1, s2, s3⟩ d K hK; go_simp; exact hK)); (focus kernel_rfl); (focus (exact ⟨c13, c4, c6, c8⟩))) | (refine anyX_tU (i := 15) rfl rfl (by kernel_rfl) (by exact ⟨c13, c4, c6, c8⟩) ?_)
      try walk_nrm
      first | (apply anyX_tW (i := 16) rfl; (focus rfl); (focus (exact nx rfl)); (focus (rintro σ' w' ⟨s0, s1, s2, s3⟩ d K hK; go_simp; exact hK)); (focus kernel_rfl); (focus (exact ⟨c13, c4, c6, c8⟩))) | (refine anyX_tU (i := 16) rfl rfl (by kernel_rfl) (by exact ⟨c13, c4, c6, c8⟩) ?_)
      try walk_nrm
      first | (apply anyX_tW (i := 17) rfl; (focus rfl); (focus (exact nx rfl)); (focus (rintro σ' w' ⟨s0, s1, s2, s3⟩ d K hK; go_simp; exact hK)); (focus kernel_rfl); (focus (exact ⟨c13, c4, c6, c8⟩))) | (refine anyX_tU (i := 17) rfl rfl (by kernel_rfl) (by exact ⟨c13, c4, c6, c8⟩) ?_)
      try walk_nrm
      first | (apply anyX_tW (i := 18) rfl; (focus rfl); (focus (exact nx rfl)); (focus (rintro σ' w' ⟨s0, s1, s2, s3⟩ d K hK; go_simp; exact hK)); (focus kernel_rfl); (focus (exact ⟨c13, c4, c6, c8⟩))) | (refine anyX_tU (i := 18) rfl rfl (by kernel_rfl) (by exact ⟨c13, c4, c6, c8⟩) ?_)
      try walk_nrm
      first | (apply anyX_tW (i := 19) rfl; (focus rfl); (focus (exact nx rfl)); (focus (rintro σ' w' ⟨s0, s1, s2, s3⟩ d K hK; go_simp; exact hK)); (focus kernel_rfl); (focus (exact ⟨c13, c4, c6, c8⟩))) | (refine anyX_tU (i := 19) rfl rfl (by kernel_rfl) (by exact ⟨c13, c4, c6, c8⟩) ?_)
      try walk_nrm
      first | (apply anyX_tW (i := 20) rfl; (focus rfl); (focus (exact nx rfl)); (focus (rintro σ' w' ⟨s0, s1, s2, s3⟩ d K hK; go_simp; exact hK)); (focus kernel_rfl); (focus (exact ⟨c13, c4, c6, c8⟩))) | (refine anyX_tU (i := 20) rfl rfl (by kernel_rfl) (by exact ⟨c13, c4, c6, c8⟩) ?_)
      try walk_nrm
      first | (apply anyX_tW (i := 21) rfl; (focus rfl); (focus (exact nx rfl)); (focus (rintro σ' w' ⟨s0, s1, s2, s3⟩ d K hK; go_simp; exact hK)); (focus kernel_rfl); (focus (exact ⟨c13, c4, c6, c8⟩))) | (refine anyX_tU (i := 21) rfl rfl (by kernel_rfl) (by exact ⟨c13, c4, c6, c8⟩) ?_)
      try walk_nrm
      first | (apply anyX_tW (i := 22) rfl; (focus rfl); (focus (exact nx rfl)); (focus (rintro σ' w' ⟨s0, s1, s2, s3⟩ d K hK; go_simp; exact hK)); (focus kernel_rfl); (focus (exact ⟨c13, c4, c6, c8⟩))) | (refine anyX_tU (i := 22) rfl rfl (by kernel_rfl) (by exact ⟨c13, c4, c6, c8⟩) ?_)
      try walk_nrm
      first | (apply anyX_tW (i := 23) rfl; (focus rfl); (focus (exact nx rfl)); (focus (rintro σ' w' ⟨s0, s1, s2, s3⟩ d K hK; go_simp; exact hK)); (focus kernel_rfl); (focus (exact ⟨c13, c4, c6, c8⟩))) | (refine anyX_tU (i := 23) rfl rfl (by kernel_rfl) (by exact ⟨c13, c4, c6, c8⟩) ?_)
      try walk_nrm
      first | (apply anyX_tW (i := 24) rfl; (focus rfl); (focus (exact nx rfl)); (focus (rintro σ' w' ⟨s0, s1, s2, s3⟩ d K hK; go_simp; exact hK)); (focus kernel_rfl); (focus (exact ⟨c13, c4, c6, c8⟩))) | (refine anyX_tU (i := 24) rfl rfl (by kernel_rfl) (by exact ⟨c13, c4, c6, c8⟩) ?_)
      try walk_nrm
      first | (apply anyX_tW (i := 25) rfl; (focus rfl); (focus (exact nx rfl)); (focus (rintro σ' w' ⟨s0, s1, s2, s3⟩ d K hK; go_simp; exact hK)); (focus kernel_rfl); (focus (exact ⟨c13, c4, c6, c8⟩))) | (refine anyX_tU (i := 25) rfl rfl (by kernel_rfl) (by exact ⟨c13, c4, c6, c8⟩) ?_)
      try walk_nrm
      first | (apply anyX_tW (i := 26) rfl; (focus rfl); (focus (exact nx rfl)); (focus (rintro σ' w' ⟨s0, s1, s2, s3⟩ d K hK; go_simp; exact hK)); (focus kernel_rfl); (focus (exact ⟨c13, c4, c6, c8⟩))) | (refine anyX_tU (i := 26) rfl rfl (by kernel_rfl) (by exact ⟨c13, c4, c6, c8⟩) ?_)
      try walk_nrm
      refine anyX_end (by kernel_rfl) ?_
      repeat (first
        | refine y_go rfl ?_
        | (refine y_region ?_; simp only [rg, Nat.reduceAdd, List.range, List.range.loop])
        | (refine y_nw rfl (by rfl) rfl (by exact nx rfl) (fun dd hS K hK => ?_); go_simp; refine hK _ _ _ ?_; clear hK K hS dd; simp only [recOf]; try walk_nrm)
        | (refine y_unwanted rfl (by rfl) ?_; try walk_nrm) | refine y_condT rfl ?_ | refine y_condF rfl ?_
        | refine y_block ?_ | refine y_label ?_ | refine y_ret ?_ | refine y_end ?_)
      refine y_leave rfl rfl Try.func208 (resultsC_tmp rfl _) ?_
      exact H.out _ _ _ ⟨rfl, rfl, rfl⟩

def ableTo (p : Pub) (i : Nat) : List Nat := (List.range i).filter p.can
def overTo (p : Pub) (i : Nat) : Bool := (List.range i).all fun j => !(p.st j).lives
theorem ableTo_succ (p : Pub) (i : Nat) : ableTo p (i + 1) = if p.can i then ableTo p i ++ [i] else ableTo p i := by
  unfold ableTo
  rw [List.range_succ, List.filter_append]
  by_cases h : p.can i <;> simp [h]
theorem overTo_succ (p : Pub) (i : Nat) : overTo p (i + 1) = (overTo p i && !(p.st i).lives) := by
  unfold overTo
  rw [List.range_succ, List.all_append]
  simp
def thrPtrs (A : GA) (l : List Nat) : List Value := l.map fun j => .pointer (some ⟨A.tb j, 0, none⟩)

theorem able_calls (M : GMem A none w) : CallsX J 172 #[.pointer (some ⟨A.R, 0, none⟩)] σ w fun v σ' w' =>
    ∃ lv, v = .tuple #[lv, .bool A.p.over] ∧ σ' = σ ∧ Bigger w w' ∧ w'.ownsRow w.heap.size 33 1 lv A.p.able.length (thrPtrs A A.p.able) := by
  refine callsX_body Try.func172 rfl fun c cs H HN => J.snd _ _ _ fun hs => ?_
  simp only [Try.f172, Try.ntmps172, List.size_toArray, List.length_cons, List.length_nil, Nat.reduceAdd, Nat.reduceSub, Nat.zero_add, Array.replicate_succ, Array.replicate_zero, List.push_toArray, List.append_toArray, List.nil_append, List.cons_append, List.append_nil]
  have r0 := M.r0
  have hn64 := M.small.2.2.2
  obtain ⟨bo, cp, hthv⟩ := row_slice M.ths
  rw [hthv] at r0
  replace M := Keep.mk M
  replace H := Keep.mk H
  replace hs := Keep.mk hs
  replace hthv := Keep.mk hthv
  replace hn64 := Keep.mk hn64
  repeat (first
    | refine y_go rfl ?_
    | (refine y_region ?_; simp only [rg, Nat.reduceAdd, List.range, List.range.loop])
    | (refine y_nw rfl (by rfl) rfl (by exact nx rfl) (fun dd hS K hK => ?_); go_simp; refine hK _ _ _ ?_; clear hK K hS dd; simp only [recOf]; try walk_nrm)
    | (refine y_unwanted rfl (by rfl) ?_; try walk_nrm) | refine y_condT rfl ?_ | refine y_condF rfl ?_
    | refine y_block ?_ | refine y_label ?_ | refine y_ret ?_ | refine y_end ?_)
  refine y_loopI (fun r a σ' w' => σ' = σ ∧ ∃ (i : Nat) (lv : Value) (ov : Bool), i ≤ A.p.nth ∧ r = A.p.nth - i ∧ ov = overTo A.p i ∧ Bigger w w' ∧ w'.ownsRow w.heap.size 33 1 lv (ableTo A.p i).length (thrPtrs A (ableTo A.p i)) ∧
      Tm a 31 [(0, .pointer (some ⟨A.R, 0, none⟩)), (2, lv), (3, .bool ov), (9, .slice bo A.p.nth cp), (10, .int .i64 A.p.nth), (11, .int .i64 i)]) A.p.nth
    ⟨rfl, 0, _, true, Nat.zero_le _, rfl, rfl, Bigger.refl w, World.ownsRow_nil _ _ _ _, ⟨rfl, rfl, rfl, rfl, rfl, rfl, rfl, rfl, trivial⟩⟩ ?_
  rintro r IH a σ w1 ⟨rfl, i, lv, ov, hi, hr, hov, B, own, hT⟩
  obtain ⟨j, rfl, h0', h1', h2', h3', h4', h5', -⟩ := Tm.lit hT
  simp only at h0' h1' h2' h3' h4' h5'
  simp only [List.range, List.range.loop, List.map_cons, List.map_nil, h0', h1', h2', h3', h4', h5']
  clear h0' h1' h2' h3' h4' h5' hT
  by_cases e : i < A.p.nth
  · have M1 := M.out.grown B.old
    have hst : A.p.st i ≠ .unborn := by have := (M.out.born i).1 e; simpa using this
    have c13 := M1.t13 e
    have hown := M1.ths
    rw [hthv.out] at hown
    have hg : ∃ g, bo = some ⟨g, 0, none⟩ := by
      rcases hown.2 with ⟨_, h0⟩ | ⟨g, cap, cur, h1, _⟩
      · omega
      · simp only [Value.slice.injEq] at h1; exact ⟨g, h1.1⟩
    obtain ⟨g, rfl⟩ := hg
    have cg : w1.cell? ⟨g, i, none⟩ = some (.pointer (some ⟨A.tb i, 0, none⟩)) := by
      rw [hown.cellAt i (by omega)]; simp [e]
    have hsp : decide (A.p.st i = .ended) = !(A.p.st i).lives := by
      cases h : A.p.st i <;> simp_all [Phase.lives]
    rw [hsp] at c13
    have e1 : (i : Int) < A.p.nth := by omega
    have e2 : (i : Int) < (A.p.nth : Int) ∧ 0 ≤ (i : Int) := ⟨e1, by omega⟩
    generalize hcan : A.p.can i = cn
    have hcan' := can_calls (J := J) (σ := σ) M1 e
    rw [hcan] at hcan'
    have hab : ableTo A.p (i + 1) = if cn then ableTo A.p i ++ [i] else ableTo A.p i := by rw [ableTo_succ, hcan]
    have hov' : overTo A.p (i + 1) = (ov && !(A.p.st i).lives) := by rw [overTo_succ, hov]
    generalize hlv : (!(A.p.st i).lives) = lvs at c13 hov'
    clear hlv hsp hst hov hown
    replace M1 := Keep.mk M1
    replace B := Keep.mk B
    replace own := Keep.mk own
    replace hcan := Keep.mk hcan
    replace hcan' := Keep.mk hcan'
    replace hab := Keep.mk hab
    replace hov' := Keep.mk hov'
    replace hi := Keep.mk hi
    replace hr := Keep.mk hr
    replace e := Keep.mk e
    replace IH := Keep.mk IH
    cases cn
    · cases ov
      · repeat (first
          | refine y_go rfl ?_
          | (refine y_region ?_; simp only [rg, Nat.reduceAdd, List.range, List.range.loop])
          | (refine y_nw rfl (by rfl) rfl (by exact nx rfl) (fun dd hS K hK => ?_); go_simp; refine hK _ _ _ ?_; clear hK K hS dd; simp only [recOf]; try walk_nrm)
          | (refine y_unwanted rfl (by rfl) ?_; try walk_nrm) | refine y_condT rfl ?_ | refine y_condF rfl ?_
          | refine y_block ?_ | refine y_label ?_ | refine y_ret ?_ | refine y_end ?_)
        refine y_callR rfl (by rfl) rfl rfl Try.func208 (by kernel_rfl) (by kernel_rfl) (hcan'.out) (by simp only [List.map_toArray, List.map_cons, List.map_nil] <;> rfl) ?_
        rintro _ σ'' w'' ⟨rfl, e2, e3⟩
        rw [e2, e3]
        clear e2 e3 w'' σ''
        walk_nrm
        repeat (first
          | refine y_go rfl ?_
          | (refine y_region ?_; simp only [rg, Nat.reduceAdd, List.range, List.range.loop])
          | (refine y_nw rfl (by rfl) rfl (by exact nx rfl) (fun dd hS K hK => ?_); go_simp; refine hK _ _ _ ?_; clear hK K hS dd; simp only [recOf]; try walk_nrm)
          | (refine y_unwanted rfl (by rfl) ?_; try walk_nrm) | refine y_condT rfl ?_ | refine y_condF rfl ?_
          | refine y_block ?_ | refine y_label ?_ | refine y_ret ?_ | refine y_end ?_)
        replace B := Keep.out B
        replace own := Keep.out own
        replace hab := Keep.out hab
        replace hov' := Keep.out hov'
        replace hi := Keep.out hi
        replace IH := Keep.out IH
        replace hn64 := Keep.out hn64
        replace hr := Keep.out hr
        replace e := Keep.out e
        rw [wrap_small (by omega) (by omega), show (i : Int) + 1 = ((i + 1 : Nat) : Int) by omega]
        refine IH _ _ _ _ (by omega) ⟨rfl, i + 1, lv, false, by omega, rfl, by rw [hov']; rfl, B, by rw [hab]; exact own, ⟨rfl, rfl, rfl, rfl, rfl, rfl, rfl, rfl, trivial⟩⟩
      · repeat (first
          | refine y_go rfl ?_
          | (refine y_region ?_; simp only [rg, Nat.reduceAdd, List.range, List.range.loop])
          | (refine y_nw rfl (by rfl) rfl (by exact nx rfl) (fun dd hS K hK => ?_); go_simp; refine hK _ _ _ ?_; clear hK K hS dd; simp only [recOf]; try walk_nrm)
          | (refine y_unwanted rfl (by rfl) ?_; try walk_nrm) | refine y_condT rfl ?_ | refine y_condF rfl ?_
          | refine y_block ?_ | refine y_label ?_ | refine y_ret ?_ | refine y_end ?_)
        refine y_callR rfl (by rfl) rfl rfl Try.func208 (by kernel_rfl) (by kernel_rfl) (hcan'.out) (by simp only [List.map_toArray, List.map_cons, List.map_nil] <;> rfl) ?_
        rintro _ σ'' w'' ⟨rfl, e2, e3⟩
        rw [e2, e3]
        clear e2 e3 w'' σ''
        walk_nrm
        repeat (first
          | refine y_go rfl ?_
          | (refine y_region ?_; simp only [rg, Nat.reduceAdd, List.range, List.range.loop])
          | (refine y_nw rfl (by rfl) rfl (by exact nx rfl) (fun dd hS K hK => ?_); go_simp; refine hK _ _ _ ?_; clear hK K hS dd; simp only [recOf]; try walk_nrm)
          | (refine y_unwanted rfl (by rfl) ?_; try walk_nrm) | refine y_condT rfl ?_ | refine y_condF rfl ?_
          | refine y_block ?_ | refine y_label ?_ | refine y_ret ?_ | refine y_end ?_)
        replace B := Keep.out B
        replace own := Keep.out own
        replace hab := Keep.out hab
        replace hov' := Keep.out hov'
        replace hi := Keep.out hi
        replace IH := Keep.out IH
        replace hn64 := Keep.out hn64
        replace hr := Keep.out hr
        replace e := Keep.out e
        rw [wrap_small (by omega) (by omega), show (i : Int) + 1 = ((i + 1 : Nat) : Int) by omega]
        refine IH _ _ _ _ (by omega) ⟨rfl, i + 1, lv, lvs, by omega, rfl, by rw [hov']; rfl, B, by rw [hab]; exact own, ⟨rfl, rfl, rfl, rfl, rfl, rfl, rfl, rfl, trivial⟩⟩
    · cases ov
      · repeat (first
          | refine y_go rfl ?_
          | (refine y_region ?_; simp only [rg, Nat.reduceAdd, List.range, List.range.loop])
          | (refine y_nw rfl (by rfl) rfl (by exact nx rfl) (fun dd hS K hK => ?_); go_simp; refine hK _ _ _ ?_; clear hK K hS dd; simp only [recOf]; try walk_nrm)
          | (refine y_unwanted rfl (by rfl) ?_; try walk_nrm) | refine y_condT rfl ?_ | refine y_condF rfl ?_
          | refine y_block ?_ | refine y_label ?_ | refine y_ret ?_ | refine y_end ?_)
        refine y_callR rfl (by rfl) rfl rfl Try.func208 (by kernel_rfl) (by kernel_rfl) (hcan'.out) (by simp only [List.map_toArray, List.map_cons, List.map_nil] <;> rfl) ?_
        rintro _ σ'' w'' ⟨rfl, e2, e3⟩
        rw [e2, e3]
        clear e2 e3 w'' σ''
        walk_nrm
        repeat (first
          | refine y_go rfl ?_
          | (refine y_region ?_; simp only [rg, Nat.reduceAdd, List.range, List.range.loop])
          | (refine y_nw rfl (by rfl) rfl (by exact nx rfl) (fun dd hS K hK => ?_); go_simp; refine hK _ _ _ ?_; clear hK K hS dd; simp only [recOf]; try walk_nrm)
          | (refine y_unwanted rfl (by rfl) ?_; try walk_nrm) | refine y_condT rfl ?_ | refine y_condF rfl ?_
          | refine y_block ?_ | refine y_label ?_ | refine y_ret ?_ | refine y_end ?_)
        have N5 := newO w1 (.cells #[.pointer (some ⟨A.tb i, 0, none⟩)] 33)
        have n5 := cells_new w1 [.pointer (some ⟨A.tb i, 0, none⟩)] 33
        generalize w1.alloc (.cells #[.pointer (some ⟨A.tb i, 0, none⟩)] 33) = w5 at N5 n5 ⊢
        replace own := Keep.out own
        replace B := Keep.out B
        replace hi := Keep.out hi
        replace hab := Keep.out hab
        replace hs := Keep.out hs
        replace hn64 := Keep.out hn64
        replace e := Keep.out e
        replace hr := Keep.out hr
        have B5 : Bigger w1 w5 := ⟨by have := N5.size; omega, N5.old⟩
        have own5 := row_later own fun k hk => B5.old k (row_ty own hk).2.1
        have hlen : (ableTo A.p i).length ≤ 64 := Nat.le_trans (List.length_filter_le _ _) (by simp; omega)
        obtain ⟨i0, hi0, hz0, hz1, hz2⟩ := info_parts (P := Try.prog) (e := 33) (z := .pointer none) (size := 1) (bytes := 8) (by kernel_rfl)
        refine y_append (size := 1) (bytes := 8) rfl (by rfl) rfl rfl Try.underlying198 hi0 hz0 hz1 hz2 rfl (by decide) w.heap.size rfl own5 rfl rfl n5 (fun x hx => by simp at hx; rcases hx with rfl; rfl) (by unfold maxLen; omega) (by omega) (Nat.le_trans B.size B5.size) (free_row own5 fun b hb => free_fresh hs hb) fun sv' w6 own6 g6 _ _ => ?_
        walk_nrm
        have B6 : Bigger w w6 := ⟨Nat.le_trans B.size (Nat.le_trans B5.size g6.size), fun b hb => (g6.block b (Nat.lt_of_lt_of_le hb (Nat.le_trans B.size B5.size)) fun e => by have := (row_ty own5 e.symm).1; omega).trans ((B5.old b (Nat.lt_of_lt_of_le hb B.size)).trans (B.old b hb))⟩
        have own7 : w6.ownsRow w.heap.size 33 1 sv' (ableTo A.p (i + 1)).length (thrPtrs A (ableTo A.p (i + 1))) := by
          rw [hab]
          simp only [if_true, List.length_append, List.length_cons, List.length_nil, thrPtrs, List.map_append, List.map_cons, List.map_nil]
          exact own6
        clear own own5 B N5 n5 g6 B5 own6 hab
        replace own7 := Keep.mk own7
        replace B6 := Keep.mk B6
        replace hi := Keep.mk hi
        replace hs := Keep.mk hs
        replace hn64 := Keep.mk hn64
        replace e := Keep.mk e
        replace hr := Keep.mk hr
        repeat (first
          | refine y_go rfl ?_
          | (refine y_region ?_; simp only [rg, Nat.reduceAdd, List.range, List.range.loop])
          | (refine y_nw rfl (by rfl) rfl (by exact nx rfl) (fun dd hS K hK => ?_); go_simp; refine hK _ _ _ ?_; clear hK K hS dd; simp only [recOf]; try walk_nrm)
          | (refine y_unwanted rfl (by rfl) ?_; try walk_nrm) | refine y_condT rfl ?_ | refine y_condF rfl ?_
          | refine y_block ?_ | refine y_label ?_ | refine y_ret ?_ | refine y_end ?_)
        replace own7 := Keep.out own7
        replace B6 := Keep.out B6
        replace hov' := Keep.out hov'
        replace hi := Keep.out hi
        replace IH := Keep.out IH
        replace hn64 := Keep.out hn64
        replace e := Keep.out e
        replace hr := Keep.out hr
        rw [wrap_small (by omega) (by omega), show (i : Int) + 1 = ((i + 1 : Nat) : Int) by omega]
        refine IH _ _ _ _ (by omega) ⟨rfl, i + 1, sv', false, by omega, rfl, by rw [hov']; rfl, B6, own7, ⟨rfl, rfl, rfl, rfl, rfl, rfl, rfl, rfl, trivial⟩⟩
      · repeat (first
          | refine y_go rfl ?_
          | (refine y_region ?_; simp only [rg, Nat.reduceAdd, List.range, List.range.loop])
          | (refine y_nw rfl (by rfl) rfl (by exact nx rfl) (fun dd hS K hK => ?_); go_simp; refine hK _ _ _ ?_; clear hK K hS dd; simp only [recOf]; try walk_nrm)
          | (refine y_unwanted rfl (by rfl) ?_; try walk_nrm) | refine y_condT rfl ?_ | refine y_condF rfl ?_
          | refine y_block ?_ | refine y_label ?_ | refine y_ret ?_ | refine y_end ?_)
        refine y_callR rfl (by rfl) rfl rfl Try.func208 (by kernel_rfl) (by kernel_rfl) (hcan'.out) (by simp only [List.map_toArray, List.map_cons, List.map_nil] <;> rfl) ?_
        rintro _ σ'' w'' ⟨rfl, e2, e3⟩
        rw [e2, e3]
        clear e2 e3 w'' σ''
        walk_nrm
        repeat (first
          | refine y_go rfl ?_
          | (refine y_region ?_; simp only [rg, Nat.reduceAdd, List.range, List.range.loop])
          | (refine y_nw rfl (by rfl) rfl (by exact nx rfl) (fun dd hS K hK => ?_); go_simp; refine hK _ _ _ ?_; clear hK K hS dd; simp only [recOf]; try walk_nrm)
          | (refine y_unwanted rfl (by rfl) ?_; try walk_nrm) | refine y_condT rfl ?_ | refine y_condF rfl ?_
          | refine y_block ?_ | refine y_label ?_ | refine y_ret ?_ | refine y_end ?_)
        have N5 := newO w1 (.cells #[.pointer (some ⟨A.tb i, 0, none⟩)] 33)
        have n5 := cells_new w1 [.pointer (some ⟨A.tb i, 0, none⟩)] 33
        generalize w1.alloc (.cells #[.pointer (some ⟨A.tb i, 0, none⟩)] 33) = w5 at N5 n5 ⊢
        replace own := Keep.out own
        replace B := Keep.out B
        replace hi := Keep.out hi
        replace hab := Keep.out hab
        replace hs := Keep.out hs
        replace hn64 := Keep.out hn64
        replace e := Keep.out e
        replace hr := Keep.out hr
        have B5 : Bigger w1 w5 := ⟨by have := N5.size; omega, N5.old⟩
        have own5 := row_later own fun k hk => B5.old k (row_ty own hk).2.1
        have hlen : (ableTo A.p i).length ≤ 64 := Nat.le_trans (List.length_filter_le _ _) (by simp; omega)
        obtain ⟨i0, hi0, hz0, hz1, hz2⟩ := info_parts (P := Try.prog) (e := 33) (z := .pointer none) (size := 1) (bytes := 8) (by kernel_rfl)
        refine y_append (size := 1) (bytes := 8) rfl (by rfl) rfl rfl Try.underlying198 hi0 hz0 hz1 hz2 rfl (by decide) w.heap.size rfl own5 rfl rfl n5 (fun x hx => by simp at hx; rcases hx with rfl; rfl) (by unfold maxLen; omega) (by omega) (Nat.le_trans B.size B5.size) (free_row own5 fun b hb => free_fresh hs hb) fun sv' w6 own6 g6 _ _ => ?_
        walk_nrm
        have B6 : Bigger w w6 := ⟨Nat.le_trans B.size (Nat.le_trans B5.size g6.size), fun b hb => (g6.block b (Nat.lt_of_lt_of_le hb (Nat.le_trans B.size B5.size)) fun e => by have := (row_ty own5 e.symm).1; omega).trans ((B5.old b (Nat.lt_of_lt_of_le hb B.size)).trans (B.old b hb))⟩
        have own7 : w6.ownsRow w.heap.size 33 1 sv' (ableTo A.p (i + 1)).length (thrPtrs A (ableTo A.p (i + 1))) := by
          rw [hab]
          simp only [if_true, List.length_append, List.length_cons, List.length_nil, thrPtrs, List.map_append, List.map_cons, List.map_nil]
          exact own6
        clear own own5 B N5 n5 g6 B5 own6 hab
        replace own7 := Keep.mk own7
        replace B6 := Keep.mk B6
        replace hi := Keep.mk hi
        replace hs := Keep.mk hs
        replace hn64 := Keep.mk hn64
        replace e := Keep.mk e
        replace hr := Keep.mk hr
        repeat (first
          | refine y_go rfl ?_
          | (refine y_region ?_; simp only [rg, Nat.reduceAdd, List.range, List.range.loop])
          | (refine y_nw rfl (by rfl) rfl (by exact nx rfl) (fun dd hS K hK => ?_); go_simp; refine hK _ _ _ ?_; clear hK K hS dd; simp only [recOf]; try walk_nrm)
          | (refine y_unwanted rfl (by rfl) ?_; try walk_nrm) | refine y_condT rfl ?_ | refine y_condF rfl ?_
          | refine y_block ?_ | refine y_label ?_ | refine y_ret ?_ | refine y_end ?_)
        replace own7 := Keep.out own7
        replace B6 := Keep.out B6
        replace hov' := Keep.out hov'
        replace hi := Keep.out hi
        replace IH := Keep.out IH
        replace hn64 := Keep.out hn64
        replace e := Keep.out e
        replace hr := Keep.out hr
        rw [wrap_small (by omega) (by omega), show (i : Int) + 1 = ((i + 1 : Nat) : Int) by omega]
        refine IH _ _ _ _ (by omega) ⟨rfl, i + 1, sv', lvs, by omega, rfl, by rw [hov']; rfl, B6, own7, ⟨rfl, rfl, rfl, rfl, rfl, rfl, rfl, rfl, trivial⟩⟩
  · have hin : i = A.p.nth := by omega
    have e1 : ¬ ((i : Int) < A.p.nth) := by omega
    replace B := Keep.mk B
    replace own := Keep.mk own
    replace hov := Keep.mk hov
    replace hi := Keep.mk hi
    replace hin := Keep.mk hin
    replace IH := Keep.mk IH
    repeat (first
      | refine y_go rfl ?_
      | (refine y_region ?_; simp only [rg, Nat.reduceAdd, List.range, List.range.loop])
      | (refine y_nw rfl (by rfl) rfl (by exact nx rfl) (fun dd hS K hK => ?_); go_simp; refine hK _ _ _ ?_; clear hK K hS dd; simp only [recOf]; try walk_nrm)
      | (refine y_unwanted rfl (by rfl) ?_; try walk_nrm) | refine y_condT rfl ?_ | refine y_condF rfl ?_
      | refine y_block ?_ | refine y_label ?_ | refine y_ret ?_ | refine y_end ?_)
    refine y_leave rfl rfl Try.func172 (resultsC_tmp2 rfl _) ?_
    refine H.out _ _ _ ⟨lv, ?_, rfl, B.out, ?_⟩
    · show Value.tuple #[lv, .bool ov] = _
      rw [hov.out, hin.out]; rfl
    · have h := own.out
      rw [hin.out] at h
      exact h
end
end Go.Proofs.Ytcibnfjpagmdaaa
