/- Latches, locks and barriers: how they are made; what they answer to one goroutine alone; things that are none; law 5's works. -/
import Derived.Test.YtcibnfjpagmdaaaLatch
import Derived.Test.YtcibnfjpagmdaaaRowl
set_option linter.unusedSimpArgs false
set_option linter.unusedVariables false
set_option maxRecDepth 100000
set_option maxHeartbeats 4000000
namespace Go.Proofs.Ytcibnfjpagmdaaa
open Go.TX Go.Conc Go.RowKit Go.MapKept

section
variable {J : Judge Try.prog} {σ : Cfg} {w : World} {t : Value} {k : Int}

/-! ### how they are made -/
/-- A struct of one pointer to a cell of its own, made anew. -/
structure MadeOne (w w' : World) (T : TypeId) (v : Int) : Prop where
  cell : CellIs w' w.heap.size v
  str : w'.heap[w.heap.size + 1]? = some (.cells #[.pointer (some ⟨w.heap.size, 0, none⟩)] T)
  size : w'.heap.size = w.heap.size + 2
  old : ∀ b, b < w.heap.size → w'.heap[b]? = w.heap[b]?
theorem madeOne (T : TypeId) (v : Int) : MadeOne w ((w.alloc (cellObj v)).alloc (.cells #[.pointer (some ⟨w.heap.size, 0, none⟩)] T)) T v := by
  have N1 := newO w (cellObj v)
  generalize w.alloc (cellObj v) = w1 at N1 ⊢
  have N2 := newO w1 (.cells #[.pointer (some ⟨w.heap.size, 0, none⟩)] T)
  generalize w1.alloc (.cells #[.pointer (some ⟨w.heap.size, 0, none⟩)] T) = w2 at N2 ⊢
  have z1 := N1.size
  have z2 := N2.size
  have i2 := N2.is
  rw [z1] at i2
  exact ⟨(N2.old _ (by omega)).trans N1.is, i2, by omega, fun b hb => (N2.old b (by omega)).trans (N1.old b hb)⟩

theorem latch_new (hk : 0 ≤ k) : CallsX J 89 #[.int .i64 k] σ w fun v σ' w' => v = .tuple #[.pointer (some ⟨w.heap.size + 1, 0, none⟩), .int .i64 0] ∧ σ' = σ ∧ MadeOne w w' 169 k := by
  refine callsX_body Try.func89 rfl fun c cs H HN => ?_
  simp only [Try.f89, Try.ntmps89, List.size_toArray, List.length_cons, List.length_nil, Nat.reduceAdd, Nat.reduceSub, Nat.zero_add, Array.replicate_succ, Array.replicate_zero, List.push_toArray, List.append_toArray, List.nil_append, List.cons_append, List.append_nil]
  have e : ¬ k < 0 := by omega
  replace H := Keep.mk H
  repeat (first
    | refine y_go rfl ?_
    | (refine y_region ?_; simp only [rg, Nat.reduceAdd, List.range, List.range.loop])
    | (refine y_nw rfl (by rfl) rfl (by exact nx rfl) (fun dd hS K hK => ?_); go_simp; refine hK _ _ _ ?_; clear hK K hS dd; simp only [recOf]; try walk_nrm)
    | (refine y_unwanted rfl (by rfl) ?_; try walk_nrm) | refine y_condT rfl ?_ | refine y_condF rfl ?_
    | refine y_block ?_ | refine y_label ?_ | refine y_ret ?_ | refine y_end ?_)
  refine y_callR rfl (by rfl) rfl rfl Try.func26 (by kernel_rfl) (by kernel_rfl) (cell_new k) (by simp only [List.map_toArray, List.map_cons, List.map_nil] <;> rfl) ?_
  rintro _ σ'' w1 ⟨rfl, rfl, rfl, _⟩
  walk_nrm
  repeat (first
    | refine y_go rfl ?_
    | (refine y_region ?_; simp only [rg, Nat.reduceAdd, List.range, List.range.loop])
    | (refine y_nw rfl (by rfl) rfl (by exact nx rfl) (fun dd hS K hK => ?_); go_simp; refine hK _ _ _ ?_; clear hK K hS dd; simp only [recOf]; try walk_nrm)
    | (refine y_unwanted rfl (by rfl) ?_; try walk_nrm) | refine y_condT rfl ?_ | refine y_condF rfl ?_
    | refine y_block ?_ | refine y_label ?_ | refine y_ret ?_ | refine y_end ?_)
  refine y_leave rfl rfl Try.func89 (resultsC_tmp2 rfl _) ?_
  exact H.out _ _ _ ⟨rfl, rfl, madeOne _ _⟩
theorem latch_new_bad (hk : k < 0) : CallsX J 89 #[.int .i64 k] σ w fun v σ' w' => v = .tuple #[.pointer none, .int .i64 1] ∧ σ' = σ ∧ w' = w := by
  refine callsX_body Try.func89 rfl fun c cs H HN => ?_
  simp only [Try.f89, Try.ntmps89, List.size_toArray, List.length_cons, List.length_nil, Nat.reduceAdd, Nat.reduceSub, Nat.zero_add, Array.replicate_succ, Array.replicate_zero, List.push_toArray, List.append_toArray, List.nil_append, List.cons_append, List.append_nil]
  replace H := Keep.mk H
  repeat (first
    | refine y_go rfl ?_
    | (refine y_region ?_; simp only [rg, Nat.reduceAdd, List.range, List.range.loop])
    | (refine y_nw rfl (by rfl) rfl (by exact nx rfl) (fun dd hS K hK => ?_); go_simp; refine hK _ _ _ ?_; clear hK K hS dd; simp only [recOf]; try walk_nrm)
    | (refine y_unwanted rfl (by rfl) ?_; try walk_nrm) | refine y_condT rfl ?_ | refine y_condF rfl ?_
    | refine y_block ?_ | refine y_label ?_ | refine y_ret ?_ | refine y_end ?_)
  refine y_leave rfl rfl Try.func89 (resultsC_tmp2 rfl _) ?_
  exact H.out _ _ _ ⟨rfl, rfl, rfl⟩
theorem lock_new : CallsX J 81 #[] σ w fun v σ' w' => v = .pointer (some ⟨w.heap.size + 1, 0, none⟩) ∧ σ' = σ ∧ MadeOne w w' 171 0 := by
  refine callsX_body Try.func81 rfl fun c cs H HN => ?_
  simp only [Try.f81, Try.ntmps81, List.size_toArray, List.length_cons, List.length_nil, Nat.reduceAdd, Nat.reduceSub, Nat.zero_add, Array.replicate_succ, Array.replicate_zero, List.push_toArray, List.append_toArray, List.nil_append, List.cons_append, List.append_nil]
  replace H := Keep.mk H
  repeat (first
    | refine y_go rfl ?_
    | (refine y_region ?_; simp only [rg, Nat.reduceAdd, List.range, List.range.loop])
    | (refine y_nw rfl (by rfl) rfl (by exact nx rfl) (fun dd hS K hK => ?_); go_simp; refine hK _ _ _ ?_; clear hK K hS dd; simp only [recOf]; try walk_nrm)
    | (refine y_unwanted rfl (by rfl) ?_; try walk_nrm) | refine y_condT rfl ?_ | refine y_condF rfl ?_
    | refine y_block ?_ | refine y_label ?_ | refine y_ret ?_ | refine y_end ?_)
  refine y_callR rfl (by rfl) rfl rfl Try.func26 (by kernel_rfl) (by kernel_rfl) (cell_new 0) (by simp only [List.map_toArray, List.map_cons, List.map_nil] <;> rfl) ?_
  rintro _ σ'' w1 ⟨rfl, rfl, rfl, _⟩
  walk_nrm
  repeat (first
    | refine y_go rfl ?_
    | (refine y_region ?_; simp only [rg, Nat.reduceAdd, List.range, List.range.loop])
    | (refine y_nw rfl (by rfl) rfl (by exact nx rfl) (fun dd hS K hK => ?_); go_simp; refine hK _ _ _ ?_; clear hK K hS dd; simp only [recOf]; try walk_nrm)
    | (refine y_unwanted rfl (by rfl) ?_; try walk_nrm) | refine y_condT rfl ?_ | refine y_condF rfl ?_
    | refine y_block ?_ | refine y_label ?_ | refine y_ret ?_ | refine y_end ?_)
  refine y_leave rfl rfl Try.func81 (resultsC_tmp rfl _) ?_
  exact H.out _ _ _ ⟨rfl, rfl, madeOne _ _⟩

structure MadeBar (w w' : World) (n : Int) : Prop where
  rd : CellIs w' w.heap.size 0
  cnt : CellIs w' (w.heap.size + 1) 0
  str : w'.heap[w.heap.size + 1 + 1]? = some (.cells #[.int .i64 n, .pointer (some ⟨w.heap.size, 0, none⟩), .pointer (some ⟨w.heap.size + 1, 0, none⟩)] 174)
  size : w'.heap.size = w.heap.size + 3
  old : ∀ b, b < w.heap.size → w'.heap[b]? = w.heap[b]?
theorem barrier_new (hk : 1 ≤ k) : CallsX J 86 #[.int .i64 k] σ w fun v σ' w' => v = .tuple #[.pointer (some ⟨w.heap.size + 1 + 1, 0, none⟩), .int .i64 0] ∧ σ' = σ ∧ MadeBar w w' k := by
  refine callsX_body Try.func86 rfl fun c cs H HN => ?_
  simp only [Try.f86, Try.ntmps86, List.size_toArray, List.length_cons, List.length_nil, Nat.reduceAdd, Nat.reduceSub, Nat.zero_add, Array.replicate_succ, Array.replicate_zero, List.push_toArray, List.append_toArray, List.nil_append, List.cons_append, List.append_nil]
  have e : ¬ k < 1 := by omega
  replace H := Keep.mk H
  repeat (first
    | refine y_go rfl ?_
    | (refine y_region ?_; simp only [rg, Nat.reduceAdd, List.range, List.range.loop])
    | (refine y_nw rfl (by rfl) rfl (by exact nx rfl) (fun dd hS K hK => ?_); go_simp; refine hK _ _ _ ?_; clear hK K hS dd; simp only [recOf]; try walk_nrm)
    | (refine y_unwanted rfl (by rfl) ?_; try walk_nrm) | refine y_condT rfl ?_ | refine y_condF rfl ?_
    | refine y_block ?_ | refine y_label ?_ | refine y_ret ?_ | refine y_end ?_)
  refine y_callR rfl (by rfl) rfl rfl Try.func26 (by kernel_rfl) (by kernel_rfl) (cell_new 0) (by simp only [List.map_toArray, List.map_cons, List.map_nil] <;> rfl) ?_
  rintro _ σ'' w1 ⟨rfl, rfl, rfl, _⟩
  have N1 := newO w (cellObj 0)
  generalize w.alloc (cellObj 0) = w1 at N1 ⊢
  replace N1 := Keep.mk N1
  walk_nrm
  repeat (first
    | refine y_go rfl ?_
    | (refine y_region ?_; simp only [rg, Nat.reduceAdd, List.range, List.range.loop])
    | (refine y_nw rfl (by rfl) rfl (by exact nx rfl) (fun dd hS K hK => ?_); go_simp; refine hK _ _ _ ?_; clear hK K hS dd; simp only [recOf]; try walk_nrm)
    | (refine y_unwanted rfl (by rfl) ?_; try walk_nrm) | refine y_condT rfl ?_ | refine y_condF rfl ?_
    | refine y_block ?_ | refine y_label ?_ | refine y_ret ?_ | refine y_end ?_)
  refine y_callR rfl (by rfl) rfl rfl Try.func26 (by kernel_rfl) (by kernel_rfl) (cell_new 0) (by simp only [List.map_toArray, List.map_cons, List.map_nil] <;> rfl) ?_
  rintro _ σ'' w2 ⟨rfl, rfl, rfl, _⟩
  have N2 := newO w1 (cellObj 0)
  generalize w1.alloc (cellObj 0) = w2 at N2 ⊢
  replace N2 := Keep.mk N2
  walk_nrm
  repeat (first
    | refine y_go rfl ?_
    | (refine y_region ?_; simp only [rg, Nat.reduceAdd, List.range, List.range.loop])
    | (refine y_nw rfl (by rfl) rfl (by exact nx rfl) (fun dd hS K hK => ?_); go_simp; refine hK _ _ _ ?_; clear hK K hS dd; simp only [recOf]; try walk_nrm)
    | (refine y_unwanted rfl (by rfl) ?_; try walk_nrm) | refine y_condT rfl ?_ | refine y_condF rfl ?_
    | refine y_block ?_ | refine y_label ?_ | refine y_ret ?_ | refine y_end ?_)
  have z1 := N1.out.size
  have z2 := N2.out.size
  rw [z1]
  have N3 := newO w2 (.cells #[.int .i64 k, .pointer (some ⟨w.heap.size, 0, none⟩), .pointer (some ⟨w.heap.size + 1, 0, none⟩)] 174)
  generalize w2.alloc (.cells #[.int .i64 k, .pointer (some ⟨w.heap.size, 0, none⟩), .pointer (some ⟨w.heap.size + 1, 0, none⟩)] 174) = w3 at N3 ⊢
  have z3 := N3.size
  have e2 : w2.heap.size = w.heap.size + 1 + 1 := by omega
  have i3 := N3.is
  have i2 := N2.out.is
  rw [z1] at i2
  rw [e2] at i3
  rw [e2]
  refine y_leave rfl rfl Try.func86 (resultsC_tmp2 rfl _) ?_
  refine H.out _ _ _ ⟨rfl, rfl, ⟨(N3.old _ (by omega)).trans ((N2.out.old _ (by omega)).trans N1.out.is), (N3.old _ (by omega)).trans i2, i3, by omega, fun b hb => (N3.old b (by omega)).trans ((N2.out.old b (by omega)).trans (N1.out.old b hb))⟩⟩
theorem barrier_new_bad (hk : k < 1) : CallsX J 86 #[.int .i64 k] σ w fun v σ' w' => v = .tuple #[.pointer none, .int .i64 1] ∧ σ' = σ ∧ w' = w := by
  refine callsX_body Try.func86 rfl fun c cs H HN => ?_
  simp only [Try.f86, Try.ntmps86, List.size_toArray, List.length_cons, List.length_nil, Nat.reduceAdd, Nat.reduceSub, Nat.zero_add, Array.replicate_succ, Array.replicate_zero, List.push_toArray, List.append_toArray, List.nil_append, List.cons_append, List.append_nil]
  replace H := Keep.mk H
  repeat (first
    | refine y_go rfl ?_
    | (refine y_region ?_; simp only [rg, Nat.reduceAdd, List.range, List.range.loop])
    | (refine y_nw rfl (by rfl) rfl (by exact nx rfl) (fun dd hS K hK => ?_); go_simp; refine hK _ _ _ ?_; clear hK K hS dd; simp only [recOf]; try walk_nrm)
    | (refine y_unwanted rfl (by rfl) ?_; try walk_nrm) | refine y_condT rfl ?_ | refine y_condF rfl ?_
    | refine y_block ?_ | refine y_label ?_ | refine y_ret ?_ | refine y_end ?_)
  refine y_leave rfl rfl Try.func86 (resultsC_tmp2 rfl _) ?_
  exact H.out _ _ _ ⟨rfl, rfl, rfl⟩

/-! ### things that are none -/
theorem cell_load_nil : CallsX J 41 #[.pointer none, t] σ w fun v σ' w' => v = .int .i64 0 ∧ σ' = σ ∧ w' = w := by
  refine callsX_body Try.func41 rfl fun c cs H HN => ?_
  simp only [Try.f41, Try.ntmps41, List.size_toArray, List.length_cons, List.length_nil, Nat.reduceAdd, Nat.reduceSub, Nat.zero_add, Array.replicate_succ, Array.replicate_zero, List.push_toArray, List.append_toArray, List.nil_append, List.cons_append, List.append_nil]
  replace H := Keep.mk H
  repeat (first
    | refine y_go rfl ?_
    | (refine y_region ?_; simp only [rg, Nat.reduceAdd, List.range, List.range.loop])
    | (refine y_nw rfl (by rfl) rfl (by exact nx rfl) (fun dd hS K hK => ?_); go_simp; refine hK _ _ _ ?_; clear hK K hS dd; simp only [recOf]; try walk_nrm)
    | (refine y_unwanted rfl (by rfl) ?_; try walk_nrm) | refine y_condT rfl ?_ | refine y_condF rfl ?_
    | refine y_block ?_ | refine y_label ?_ | refine y_ret ?_ | refine y_end ?_)
  refine y_callR rfl (by rfl) rfl rfl Try.func138 (by kernel_rfl) (by kernel_rfl) (cell_none_nil) (by simp only [List.map_toArray, List.map_cons, List.map_nil] <;> rfl) ?_
  rintro _ σ'' w'' ⟨rfl, e2, e3⟩
  rw [e2, e3]
  clear e2 e3 w'' σ''
  walk_nrm
  repeat (first
    | refine y_go rfl ?_
    | (refine y_region ?_; simp only [rg, Nat.reduceAdd, List.range, List.range.loop])
    | (refine y_nw rfl (by rfl) rfl (by exact nx rfl) (fun dd hS K hK => ?_); go_simp; refine hK _ _ _ ?_; clear hK K hS dd; simp only [recOf]; try walk_nrm)
    | (refine y_unwanted rfl (by rfl) ?_; try walk_nrm) | refine y_condT rfl ?_ | refine y_condF rfl ?_
    | refine y_block ?_ | refine y_label ?_ | refine y_ret ?_ | refine y_end ?_)
  refine y_leave rfl rfl Try.func41 (resultsC_tmp rfl _) ?_
  exact H.out _ _ _ ⟨rfl, rfl, rfl⟩
theorem left_nil : CallsX J 94 #[.pointer none, t] σ w fun v σ' w' => v = .int .i64 0 ∧ σ' = σ ∧ w' = w := by
  refine callsX_body Try.func94 rfl fun c cs H HN => ?_
  simp only [Try.f94, Try.ntmps94, List.size_toArray, List.length_cons, List.length_nil, Nat.reduceAdd, Nat.reduceSub, Nat.zero_add, Array.replicate_succ, Array.replicate_zero, List.push_toArray, List.append_toArray, List.nil_append, List.cons_append, List.append_nil]
  replace H := Keep.mk H
  repeat (first
    | refine y_go rfl ?_
    | (refine y_region ?_; simp only [rg, Nat.reduceAdd, List.range, List.range.loop])
    | (refine y_nw rfl (by rfl) rfl (by exact nx rfl) (fun dd hS K hK => ?_); go_simp; refine hK _ _ _ ?_; clear hK K hS dd; simp only [recOf]; try walk_nrm)
    | (refine y_unwanted rfl (by rfl) ?_; try walk_nrm) | refine y_condT rfl ?_ | refine y_condF rfl ?_
    | refine y_block ?_ | refine y_label ?_ | refine y_ret ?_ | refine y_end ?_)
  refine y_leave rfl rfl Try.func94 (resultsC_tmp rfl _) ?_
  exact H.out _ _ _ ⟨rfl, rfl, rfl⟩
theorem left_bare {l : Nat} (hl : w.cell? ⟨l, 0, none⟩ = some (.pointer none)) : CallsX J 94 #[.pointer (some ⟨l, 0, none⟩), t] σ w fun v σ' w' => v = .int .i64 0 ∧ σ' = σ ∧ w' = w := by
  refine callsX_body Try.func94 rfl fun c cs H HN => ?_
  simp only [Try.f94, Try.ntmps94, List.size_toArray, List.length_cons, List.length_nil, Nat.reduceAdd, Nat.reduceSub, Nat.zero_add, Array.replicate_succ, Array.replicate_zero, List.push_toArray, List.append_toArray, List.nil_append, List.cons_append, List.append_nil]
  replace H := Keep.mk H
  repeat (first
    | refine y_go rfl ?_
    | (refine y_region ?_; simp only [rg, Nat.reduceAdd, List.range, List.range.loop])
    | (refine y_nw rfl (by rfl) rfl (by exact nx rfl) (fun dd hS K hK => ?_); go_simp; refine hK _ _ _ ?_; clear hK K hS dd; simp only [recOf]; try walk_nrm)
    | (refine y_unwanted rfl (by rfl) ?_; try walk_nrm) | refine y_condT rfl ?_ | refine y_condF rfl ?_
    | refine y_block ?_ | refine y_label ?_ | refine y_ret ?_ | refine y_end ?_)
  refine y_callR rfl (by rfl) rfl rfl Try.func41 (by kernel_rfl) (by kernel_rfl) (cell_load_nil) (by simp only [List.map_toArray, List.map_cons, List.map_nil] <;> rfl) ?_
  rintro _ σ'' w'' ⟨rfl, e2, e3⟩
  rw [e2, e3]
  clear e2 e3 w'' σ''
  walk_nrm
  repeat (first
    | refine y_go rfl ?_
    | (refine y_region ?_; simp only [rg, Nat.reduceAdd, List.range, List.range.loop])
    | (refine y_nw rfl (by rfl) rfl (by exact nx rfl) (fun dd hS K hK => ?_); go_simp; refine hK _ _ _ ?_; clear hK K hS dd; simp only [recOf]; try walk_nrm)
    | (refine y_unwanted rfl (by rfl) ?_; try walk_nrm) | refine y_condT rfl ?_ | refine y_condF rfl ?_
    | refine y_block ?_ | refine y_label ?_ | refine y_ret ?_ | refine y_end ?_)
  refine y_leave rfl rfl Try.func94 (resultsC_tmp rfl _) ?_
  exact H.out _ _ _ ⟨rfl, rfl, rfl⟩
theorem down_nil : CallsX J 91 #[.pointer none, t, .int .i64 k] σ w fun v σ' w' => v = .int .i64 2 ∧ σ' = σ ∧ w' = w := by
  refine callsX_body Try.func91 rfl fun c cs H HN => ?_
  simp only [Try.f91, Try.ntmps91, List.size_toArray, List.length_cons, List.length_nil, Nat.reduceAdd, Nat.reduceSub, Nat.zero_add, Array.replicate_succ, Array.replicate_zero, List.push_toArray, List.append_toArray, List.nil_append, List.cons_append, List.append_nil]
  replace H := Keep.mk H
  repeat (first
    | refine y_go rfl ?_
    | (refine y_region ?_; simp only [rg, Nat.reduceAdd, List.range, List.range.loop])
    | (refine y_nw rfl (by rfl) rfl (by exact nx rfl) (fun dd hS K hK => ?_); go_simp; refine hK _ _ _ ?_; clear hK K hS dd; simp only [recOf]; try walk_nrm)
    | (refine y_unwanted rfl (by rfl) ?_; try walk_nrm) | refine y_condT rfl ?_ | refine y_condF rfl ?_
    | refine y_block ?_ | refine y_label ?_ | refine y_ret ?_ | refine y_end ?_)
  refine y_leave rfl rfl Try.func91 (resultsC_tmp rfl _) ?_
  exact H.out _ _ _ ⟨rfl, rfl, rfl⟩
theorem down_bare {l : Nat} (hl : w.cell? ⟨l, 0, none⟩ = some (.pointer none)) : CallsX J 91 #[.pointer (some ⟨l, 0, none⟩), t, .int .i64 k] σ w fun v σ' w' => v = .int .i64 2 ∧ σ' = σ ∧ w' = w := by
  refine callsX_body Try.func91 rfl fun c cs H HN => ?_
  simp only [Try.f91, Try.ntmps91, List.size_toArray, List.length_cons, List.length_nil, Nat.reduceAdd, Nat.reduceSub, Nat.zero_add, Array.replicate_succ, Array.replicate_zero, List.push_toArray, List.append_toArray, List.nil_append, List.cons_append, List.append_nil]
  replace H := Keep.mk H
  repeat (first
    | refine y_go rfl ?_
    | (refine y_region ?_; simp only [rg, Nat.reduceAdd, List.range, List.range.loop])
    | (refine y_nw rfl (by rfl) rfl (by exact nx rfl) (fun dd hS K hK => ?_); go_simp; refine hK _ _ _ ?_; clear hK K hS dd; simp only [recOf]; try walk_nrm)
    | (refine y_unwanted rfl (by rfl) ?_; try walk_nrm) | refine y_condT rfl ?_ | refine y_condF rfl ?_
    | refine y_block ?_ | refine y_label ?_ | refine y_ret ?_ | refine y_end ?_)
  refine y_leave rfl rfl Try.func91 (resultsC_tmp rfl _) ?_
  exact H.out _ _ _ ⟨rfl, rfl, rfl⟩
theorem wait_nil : CallsX J 93 #[.pointer none, t] σ w fun v σ' w' => v = .int .i64 2 ∧ σ' = σ ∧ w' = w := by
  refine callsX_body Try.func93 rfl fun c cs H HN => ?_
  simp only [Try.f93, Try.ntmps93, List.size_toArray, List.length_cons, List.length_nil, Nat.reduceAdd, Nat.reduceSub, Nat.zero_add, Array.replicate_succ, Array.replicate_zero, List.push_toArray, List.append_toArray, List.nil_append, List.cons_append, List.append_nil]
  replace H := Keep.mk H
  repeat (first
    | refine y_go rfl ?_
    | (refine y_region ?_; simp only [rg, Nat.reduceAdd, List.range, List.range.loop])
    | (refine y_nw rfl (by rfl) rfl (by exact nx rfl) (fun dd hS K hK => ?_); go_simp; refine hK _ _ _ ?_; clear hK K hS dd; simp only [recOf]; try walk_nrm)
    | (refine y_unwanted rfl (by rfl) ?_; try walk_nrm) | refine y_condT rfl ?_ | refine y_condF rfl ?_
    | refine y_block ?_ | refine y_label ?_ | refine y_ret ?_ | refine y_end ?_)
  refine y_leave rfl rfl Try.func93 (resultsC_tmp rfl _) ?_
  exact H.out _ _ _ ⟨rfl, rfl, rfl⟩
theorem wait_bare {l : Nat} (hl : w.cell? ⟨l, 0, none⟩ = some (.pointer none)) : CallsX J 93 #[.pointer (some ⟨l, 0, none⟩), t] σ w fun v σ' w' => v = .int .i64 2 ∧ σ' = σ ∧ w' = w := by
  refine callsX_body Try.func93 rfl fun c cs H HN => ?_
  simp only [Try.f93, Try.ntmps93, List.size_toArray, List.length_cons, List.length_nil, Nat.reduceAdd, Nat.reduceSub, Nat.zero_add, Array.replicate_succ, Array.replicate_zero, List.push_toArray, List.append_toArray, List.nil_append, List.cons_append, List.append_nil]
  replace H := Keep.mk H
  repeat (first
    | refine y_go rfl ?_
    | (refine y_region ?_; simp only [rg, Nat.reduceAdd, List.range, List.range.loop])
    | (refine y_nw rfl (by rfl) rfl (by exact nx rfl) (fun dd hS K hK => ?_); go_simp; refine hK _ _ _ ?_; clear hK K hS dd; simp only [recOf]; try walk_nrm)
    | (refine y_unwanted rfl (by rfl) ?_; try walk_nrm) | refine y_condT rfl ?_ | refine y_condF rfl ?_
    | refine y_block ?_ | refine y_label ?_ | refine y_ret ?_ | refine y_end ?_)
  refine y_leave rfl rfl Try.func93 (resultsC_tmp rfl _) ?_
  exact H.out _ _ _ ⟨rfl, rfl, rfl⟩
theorem lock_nil : CallsX J 84 #[.pointer none, t] σ w fun v σ' w' => v = .int .i64 2 ∧ σ' = σ ∧ w' = w := by
  refine callsX_body Try.func84 rfl fun c cs H HN => ?_
  simp only [Try.f84, Try.ntmps84, List.size_toArray, List.length_cons, List.length_nil, Nat.reduceAdd, Nat.reduceSub, Nat.zero_add, Array.replicate_succ, Array.replicate_zero, List.push_toArray, List.append_toArray, List.nil_append, List.cons_append, List.append_nil]
  replace H := Keep.mk H
  repeat (first
    | refine y_go rfl ?_
    | (refine y_region ?_; simp only [rg, Nat.reduceAdd, List.range, List.range.loop])
    | (refine y_nw rfl (by rfl) rfl (by exact nx rfl) (fun dd hS K hK => ?_); go_simp; refine hK _ _ _ ?_; clear hK K hS dd; simp only [recOf]; try walk_nrm)
    | (refine y_unwanted rfl (by rfl) ?_; try walk_nrm) | refine y_condT rfl ?_ | refine y_condF rfl ?_
    | refine y_block ?_ | refine y_label ?_ | refine y_ret ?_ | refine y_end ?_)
  refine y_leave rfl rfl Try.func84 (resultsC_tmp rfl _) ?_
  exact H.out _ _ _ ⟨rfl, rfl, rfl⟩
theorem lock_bare {l : Nat} (hl : w.cell? ⟨l, 0, none⟩ = some (.pointer none)) : CallsX J 84 #[.pointer (some ⟨l, 0, none⟩), t] σ w fun v σ' w' => v = .int .i64 2 ∧ σ' = σ ∧ w' = w := by
  refine callsX_body Try.func84 rfl fun c cs H HN => ?_
  simp only [Try.f84, Try.ntmps84, List.size_toArray, List.length_cons, List.length_nil, Nat.reduceAdd, Nat.reduceSub, Nat.zero_add, Array.replicate_succ, Array.replicate_zero, List.push_toArray, List.append_toArray, List.nil_append, List.cons_append, List.append_nil]
  replace H := Keep.mk H
  repeat (first
    | refine y_go rfl ?_
    | (refine y_region ?_; simp only [rg, Nat.reduceAdd, List.range, List.range.loop])
    | (refine y_nw rfl (by rfl) rfl (by exact nx rfl) (fun dd hS K hK => ?_); go_simp; refine hK _ _ _ ?_; clear hK K hS dd; simp only [recOf]; try walk_nrm)
    | (refine y_unwanted rfl (by rfl) ?_; try walk_nrm) | refine y_condT rfl ?_ | refine y_condF rfl ?_
    | refine y_block ?_ | refine y_label ?_ | refine y_ret ?_ | refine y_end ?_)
  refine y_leave rfl rfl Try.func84 (resultsC_tmp rfl _) ?_
  exact H.out _ _ _ ⟨rfl, rfl, rfl⟩
theorem try_nil : CallsX J 83 #[.pointer none, t] σ w fun v σ' w' => v = .bool false ∧ σ' = σ ∧ w' = w := by
  refine callsX_body Try.func83 rfl fun c cs H HN => ?_
  simp only [Try.f83, Try.ntmps83, List.size_toArray, List.length_cons, List.length_nil, Nat.reduceAdd, Nat.reduceSub, Nat.zero_add, Array.replicate_succ, Array.replicate_zero, List.push_toArray, List.append_toArray, List.nil_append, List.cons_append, List.append_nil]
  replace H := Keep.mk H
  repeat (first
    | refine y_go rfl ?_
    | (refine y_region ?_; simp only [rg, Nat.reduceAdd, List.range, List.range.loop])
    | (refine y_nw rfl (by rfl) rfl (by exact nx rfl) (fun dd hS K hK => ?_); go_simp; refine hK _ _ _ ?_; clear hK K hS dd; simp only [recOf]; try walk_nrm)
    | (refine y_unwanted rfl (by rfl) ?_; try walk_nrm) | refine y_condT rfl ?_ | refine y_condF rfl ?_
    | refine y_block ?_ | refine y_label ?_ | refine y_ret ?_ | refine y_end ?_)
  refine y_leave rfl rfl Try.func83 (resultsC_tmp rfl _) ?_
  exact H.out _ _ _ ⟨rfl, rfl, rfl⟩
theorem try_bare {l : Nat} (hl : w.cell? ⟨l, 0, none⟩ = some (.pointer none)) : CallsX J 83 #[.pointer (some ⟨l, 0, none⟩), t] σ w fun v σ' w' => v = .bool false ∧ σ' = σ ∧ w' = w := by
  refine callsX_body Try.func83 rfl fun c cs H HN => ?_
  simp only [Try.f83, Try.ntmps83, List.size_toArray, List.length_cons, List.length_nil, Nat.reduceAdd, Nat.reduceSub, Nat.zero_add, Array.replicate_succ, Array.replicate_zero, List.push_toArray, List.append_toArray, List.nil_append, List.cons_append, List.append_nil]
  replace H := Keep.mk H
  repeat (first
    | refine y_go rfl ?_
    | (refine y_region ?_; simp only [rg, Nat.reduceAdd, List.range, List.range.loop])
    | (refine y_nw rfl (by rfl) rfl (by exact nx rfl) (fun dd hS K hK => ?_); go_simp; refine hK _ _ _ ?_; clear hK K hS dd; simp only [recOf]; try walk_nrm)
    | (refine y_unwanted rfl (by rfl) ?_; try walk_nrm) | refine y_condT rfl ?_ | refine y_condF rfl ?_
    | refine y_block ?_ | refine y_label ?_ | refine y_ret ?_ | refine y_end ?_)
  refine y_leave rfl rfl Try.func83 (resultsC_tmp rfl _) ?_
  exact H.out _ _ _ ⟨rfl, rfl, rfl⟩
theorem unlock_nil : CallsX J 85 #[.pointer none, t] σ w fun v σ' w' => v = .int .i64 2 ∧ σ' = σ ∧ w' = w := by
  refine callsX_body Try.func85 rfl fun c cs H HN => ?_
  simp only [Try.f85, Try.ntmps85, List.size_toArray, List.length_cons, List.length_nil, Nat.reduceAdd, Nat.reduceSub, Nat.zero_add, Array.replicate_succ, Array.replicate_zero, List.push_toArray, List.append_toArray, List.nil_append, List.cons_append, List.append_nil]
  replace H := Keep.mk H
  repeat (first
    | refine y_go rfl ?_
    | (refine y_region ?_; simp only [rg, Nat.reduceAdd, List.range, List.range.loop])
    | (refine y_nw rfl (by rfl) rfl (by exact nx rfl) (fun dd hS K hK => ?_); go_simp; refine hK _ _ _ ?_; clear hK K hS dd; simp only [recOf]; try walk_nrm)
    | (refine y_unwanted rfl (by rfl) ?_; try walk_nrm) | refine y_condT rfl ?_ | refine y_condF rfl ?_
    | refine y_block ?_ | refine y_label ?_ | refine y_ret ?_ | refine y_end ?_)
  refine y_leave rfl rfl Try.func85 (resultsC_tmp rfl _) ?_
  exact H.out _ _ _ ⟨rfl, rfl, rfl⟩
theorem unlock_bare {l : Nat} (hl : w.cell? ⟨l, 0, none⟩ = some (.pointer none)) : CallsX J 85 #[.pointer (some ⟨l, 0, none⟩), t] σ w fun v σ' w' => v = .int .i64 2 ∧ σ' = σ ∧ w' = w := by
  refine callsX_body Try.func85 rfl fun c cs H HN => ?_
  simp only [Try.f85, Try.ntmps85, List.size_toArray, List.length_cons, List.length_nil, Nat.reduceAdd, Nat.reduceSub, Nat.zero_add, Array.replicate_succ, Array.replicate_zero, List.push_toArray, List.append_toArray, List.nil_append, List.cons_append, List.append_nil]
  replace H := Keep.mk H
  repeat (first
    | refine y_go rfl ?_
    | (refine y_region ?_; simp only [rg, Nat.reduceAdd, List.range, List.range.loop])
    | (refine y_nw rfl (by rfl) rfl (by exact nx rfl) (fun dd hS K hK => ?_); go_simp; refine hK _ _ _ ?_; clear hK K hS dd; simp only [recOf]; try walk_nrm)
    | (refine y_unwanted rfl (by rfl) ?_; try walk_nrm) | refine y_condT rfl ?_ | refine y_condF rfl ?_
    | refine y_block ?_ | refine y_label ?_ | refine y_ret ?_ | refine y_end ?_)
  refine y_leave rfl rfl Try.func85 (resultsC_tmp rfl _) ?_
  exact H.out _ _ _ ⟨rfl, rfl, rfl⟩
theorem arrive_nil : CallsX J 88 #[.pointer none, t] σ w fun v σ' w' => v = .tuple #[.int .i64 0, .bool false, .int .i64 2] ∧ σ' = σ ∧ w' = w := by
  refine callsX_body Try.func88 rfl fun c cs H HN => ?_
  simp only [Try.f88, Try.ntmps88, List.size_toArray, List.length_cons, List.length_nil, Nat.reduceAdd, Nat.reduceSub, Nat.zero_add, Array.replicate_succ, Array.replicate_zero, List.push_toArray, List.append_toArray, List.nil_append, List.cons_append, List.append_nil]
  replace H := Keep.mk H
  repeat (first
    | refine y_go rfl ?_
    | (refine y_region ?_; simp only [rg, Nat.reduceAdd, List.range, List.range.loop])
    | (refine y_nw rfl (by rfl) rfl (by exact nx rfl) (fun dd hS K hK => ?_); go_simp; refine hK _ _ _ ?_; clear hK K hS dd; simp only [recOf]; try walk_nrm)
    | (refine y_unwanted rfl (by rfl) ?_; try walk_nrm) | refine y_condT rfl ?_ | refine y_condF rfl ?_
    | refine y_block ?_ | refine y_label ?_ | refine y_ret ?_ | refine y_end ?_)
  refine y_leave rfl rfl Try.func88 (resultsC_tmp3 rfl _) ?_
  exact H.out _ _ _ ⟨rfl, rfl, rfl⟩
theorem arrive_bare {l : Nat} (hl : w.cell? ⟨l, 0, none⟩ = some (.int .i64 0)) : CallsX J 88 #[.pointer (some ⟨l, 0, none⟩), t] σ w fun v σ' w' => v = .tuple #[.int .i64 0, .bool false, .int .i64 2] ∧ σ' = σ ∧ w' = w := by
  refine callsX_body Try.func88 rfl fun c cs H HN => ?_
  simp only [Try.f88, Try.ntmps88, List.size_toArray, List.length_cons, List.length_nil, Nat.reduceAdd, Nat.reduceSub, Nat.zero_add, Array.replicate_succ, Array.replicate_zero, List.push_toArray, List.append_toArray, List.nil_append, List.cons_append, List.append_nil]
  replace H := Keep.mk H
  repeat (first
    | refine y_go rfl ?_
    | (refine y_region ?_; simp only [rg, Nat.reduceAdd, List.range, List.range.loop])
    | (refine y_nw rfl (by rfl) rfl (by exact nx rfl) (fun dd hS K hK => ?_); go_simp; refine hK _ _ _ ?_; clear hK K hS dd; simp only [recOf]; try walk_nrm)
    | (refine y_unwanted rfl (by rfl) ?_; try walk_nrm) | refine y_condT rfl ?_ | refine y_condF rfl ?_
    | refine y_block ?_ | refine y_label ?_ | refine y_ret ?_ | refine y_end ?_)
  refine y_leave rfl rfl Try.func88 (resultsC_tmp3 rfl _) ?_
  exact H.out _ _ _ ⟨rfl, rfl, rfl⟩

/-! ### one goroutine alone -/
variable {S : Nat → Prop} {m m' : Nat → Int} {n l cc rd : Nat}
theorem calls_alone {M : Mach Value} {f : FuncId} {args : Array Value} {Lay : Cfg → World → Prop} {k0 : M.K} {r : Value} (hc : ∀ {Q : Value → Cfg → World → Prop}, Acts (freeHand J) M Lay Q n k0 σ w → CallsX J f args σ w Q (freeHand J).N) (hin : M.In S) (hlay : ∀ w', Same S w w' → Lay σ w') (hh : Holds S σ w m)
    (hr : M.run n k0 m = some (r, m')) : CallsX J f args σ w fun v σ' w' => v = r ∧ σ' = σ ∧ Same S w w' ∧ Holds S σ w' m' := hc (acts_alone hin hlay (Same.refl _ _) hh hr)

theorem one_same {T : TypeId} (hl : w.heap[l]? = some (.cells #[.pointer (some ⟨cc, 0, none⟩)] T)) (hS : ¬ S l) : ∀ w', Same S w w' → One l cc σ w' := fun w' h => by
  unfold One World.cell?
  rw [h.old l hS, hl]
  rfl
theorem down_free {T : TypeId} {x : Int} (hh : Holds S σ w m) (hc : S cc) (hl : w.heap[l]? = some (.cells #[.pointer (some ⟨cc, 0, none⟩)] T)) (hS : ¬ S l) (hx : m cc = x) (h1 : 1 ≤ k) (h2 : k ≤ x) (h3 : x ≤ 9223372036854775807) :
    CallsX J 91 #[.pointer (some ⟨l, 0, none⟩), .pointer none, .int .i64 k] σ w fun v σ' w' => v = .int .i64 0 ∧ σ' = σ ∧ Same S w w' ∧ Holds S σ w' (setAt m cc (x - k)) := by
  have e1 : ¬ x < k := by omega
  have e2 : IntKind.i64.wrap (x - k) = x - k := wrap_small (by omega) (by omega)
  refine calls_alone (n := 3) (fun h => down_calls h h1) (fun s a ha => ?_) (one_same hl hS) hh ?_
  · cases s <;> simp [downM] at ha
    · rw [← ha]; exact hc
    · split at ha
      · cases ha
      · simp only [Sum.inl.injEq] at ha
        rw [← ha]; exact hc
  · have e3 : setAt (setAt m cc x) cc (x - k) = setAt m cc (x - k) := by funext y; unfold setAt; split <;> rfl
    simp [Mach.run, downM, Acc.now, hx, e1, e2, okV, setAt_same, e3]
theorem wait_free {T : TypeId} (hh : Holds S σ w m) (hc : S cc) (hl : w.heap[l]? = some (.cells #[.pointer (some ⟨cc, 0, none⟩)] T)) (hS : ¬ S l) (hx : m cc = 0) :
    CallsX J 93 #[.pointer (some ⟨l, 0, none⟩), .pointer none] σ w fun v σ' w' => v = .int .i64 0 ∧ σ' = σ ∧ Same S w w' ∧ Holds S σ w' (setAt m cc 0) := by
  refine calls_alone (n := 2) (fun h => wait_calls h) (fun s a ha => ?_) (one_same hl hS) hh ?_
  · cases s <;> simp [waitM] at ha
    · rw [← ha]; exact hc
    · split at ha
      · cases ha
      · simp only [Sum.inl.injEq] at ha
        rw [← ha]; exact hc
  · simp [Mach.run, waitM, Acc.now, hx, okV]
theorem left_free {T : TypeId} {x : Int} (hh : Holds S σ w m) (hc : S cc) (hl : w.heap[l]? = some (.cells #[.pointer (some ⟨cc, 0, none⟩)] T)) (hS : ¬ S l) (hx : m cc = x) :
    CallsX J 94 #[.pointer (some ⟨l, 0, none⟩), .pointer none] σ w fun v σ' w' => v = .int .i64 x ∧ σ' = σ ∧ Same S w w' ∧ Holds S σ w' (setAt m cc x) := by
  refine calls_alone (n := 2) (fun h => left_calls h) (fun s a ha => ?_) (one_same hl hS) hh ?_
  · cases s <;> simp [leftM] at ha
    rw [← ha]; exact hc
  · simp [Mach.run, leftM, Acc.now, hx]
theorem lock_free0 {T : TypeId} (hh : Holds S σ w m) (hc : S cc) (hl : w.heap[l]? = some (.cells #[.pointer (some ⟨cc, 0, none⟩)] T)) (hS : ¬ S l) (hx : m cc = 0) :
    CallsX J 84 #[.pointer (some ⟨l, 0, none⟩), .pointer none] σ w fun v σ' w' => v = .int .i64 0 ∧ σ' = σ ∧ Same S w w' ∧ Holds S σ w' (setAt m cc 1) := by
  refine calls_alone (n := 2) (fun h => lock_calls h) (fun s a ha => ?_) (one_same hl hS) hh ?_
  · cases s <;> simp [lockM] at ha <;> (rw [← ha]; exact hc)
  · simp [Mach.run, lockM, Acc.now, hx, okV]
theorem try_free {T : TypeId} {x : Int} (hh : Holds S σ w m) (hc : S cc) (hl : w.heap[l]? = some (.cells #[.pointer (some ⟨cc, 0, none⟩)] T)) (hS : ¬ S l) (hx : m cc = x) :
    CallsX J 83 #[.pointer (some ⟨l, 0, none⟩), .pointer none] σ w fun v σ' w' => v = .bool (decide (x = 0)) ∧ σ' = σ ∧ Same S w w' ∧ Holds S σ w' (setAt m cc (if x = 0 then 1 else x)) := by
  refine calls_alone (n := 2) (fun h => try_calls h) (fun s a ha => ?_) (one_same hl hS) hh ?_
  · cases s <;> simp [tryM] at ha
    rw [← ha]; exact hc
  · simp [Mach.run, tryM, Acc.now, hx]
theorem unlock_free {T : TypeId} {x : Int} (hh : Holds S σ w m) (hc : S cc) (hl : w.heap[l]? = some (.cells #[.pointer (some ⟨cc, 0, none⟩)] T)) (hS : ¬ S l) (hx : m cc = x) :
    CallsX J 85 #[.pointer (some ⟨l, 0, none⟩), .pointer none] σ w fun v σ' w' => v = .int .i64 (if x = 0 then 11 else 0) ∧ σ' = σ ∧ Same S w w' ∧ Holds S σ w' (setAt m cc 0) := by
  refine calls_alone (n := 2) (fun h => unlock_calls h) (fun s a ha => ?_) (one_same hl hS) hh ?_
  · cases s <;> simp [unlockM] at ha
    rw [← ha]; exact hc
  · simp [Mach.run, unlockM, Acc.now, hx]
/-- The last one of one. -/
theorem arrive_free {x : Int} (hh : Holds S σ w m) (hc : S cc) (hr : S rd) (hl : w.heap[l]? = some (.cells #[.int .i64 1, .pointer (some ⟨rd, 0, none⟩), .pointer (some ⟨cc, 0, none⟩)] 174)) (hS : ¬ S l) (hne : rd ≠ cc) (hx : m rd = x) (h0 : m cc = 0) :
    CallsX J 88 #[.pointer (some ⟨l, 0, none⟩), .pointer none] σ w fun v σ' w' => v = .tuple #[.int .i64 x, .bool true, .int .i64 0] ∧ σ' = σ ∧ Same S w w' ∧ Holds S σ w' (setAt (setAt m cc 0) rd (IntKind.i64.wrap (x + 1))) := by
  refine calls_alone (n := 5) (M := arrM rd cc 1) (fun h => arrive_calls h (by decide)) (fun s a ha => ?_) (fun w' h => ?_) hh ?_
  · cases s <;> simp [arrM] at ha <;> (rw [← ha]; first | exact hc | exact hr)
  · unfold Barr World.cell?
    rw [h.old l hS, hl]
    exact ⟨rfl, rfl, rfl⟩
  · have w1 : IntKind.i64.wrap 1 = 1 := by decide
    have e0 : (setAt m rd x) cc = 0 := by rw [setAt_ne _ _ hne.symm]; exact h0
    have e3 : setAt (setAt (setAt m rd x) cc 1) cc 0 = setAt (setAt m rd x) cc 0 := by funext y; unfold setAt; split <;> rfl
    have e4 : (setAt (setAt m rd x) cc 0) rd = x := by rw [setAt_ne _ _ hne, setAt_same]
    have e5 : setAt (setAt (setAt m rd x) cc 0) rd (IntKind.i64.wrap (x + 1)) = setAt (setAt m cc 0) rd (IntKind.i64.wrap (x + 1)) := by funext y; unfold setAt; split <;> rfl
    simp [Mach.run, arrM, Acc.now, hx, e0, w1, okV, e3, e4, e5]
end
end Go.Proofs.Ytcibnfjpagmdaaa
