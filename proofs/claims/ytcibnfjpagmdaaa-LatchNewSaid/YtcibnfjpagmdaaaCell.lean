/- The cell's own functions, under a judgement that is kept backward: free calls (no thread). -/
import Derived.Test.YtcibnfjpagmdaaaWb
import Derived.Test.YtcibnfjpagmdaaaLk
set_option linter.unusedSimpArgs false
set_option linter.unusedVariables false
set_option maxRecDepth 100000
namespace Go.Proofs.Ytcibnfjpagmdaaa
open Go.TX Go.Conc Go.RowKit Go.MapKept
variable {J : Judge Try.prog} {σ : Cfg} {w : World}

theorem cell_none_nil : CallsX J 138 #[.pointer none] σ w fun v σ' w' => v = .bool true ∧ σ' = σ ∧ w' = w := by
  refine callsX_body Try.func138 rfl fun c cs H HN => ?_
  simp only [Try.f138, Try.ntmps138, List.size_toArray, List.length_cons, List.length_nil, Nat.reduceAdd, Nat.reduceSub, Nat.zero_add, Array.replicate_succ, Array.replicate_zero, List.push_toArray, List.append_toArray, List.nil_append, List.cons_append, List.append_nil]
  repeat (first
    | refine y_go rfl ?_
    | (refine y_region ?_; simp only [rg, Nat.reduceAdd, List.range, List.range.loop])
    | (refine y_nw rfl (by rfl) rfl (by exact nx rfl) (fun dd hS K hK => ?_); go_simp; refine hK _ _ _ ?_; clear hK K hS dd; simp only [recOf]; try walk_nrm)
    | (refine y_unwanted rfl (by rfl) ?_; try walk_nrm) | refine y_condT rfl ?_ | refine y_condF rfl ?_
    | refine y_block ?_ | refine y_label ?_ | refine y_ret ?_ | refine y_end ?_)
  refine y_leave rfl rfl Try.func138 (resultsC_tmp rfl _) ?_
  exact H _ _ _ ⟨rfl, rfl, rfl⟩

theorem cell_none_made (b : Nat) (m : Bool) (hm : w.cell? ⟨b, 1, none⟩ = some (.bool m)) : CallsX J 138 #[.pointer (some ⟨b, 0, none⟩)] σ w fun v σ' w' => v = .bool (!m) ∧ σ' = σ ∧ w' = w := by
  refine callsX_body Try.func138 rfl fun c cs H HN => ?_
  simp only [Try.f138, Try.ntmps138, List.size_toArray, List.length_cons, List.length_nil, Nat.reduceAdd, Nat.reduceSub, Nat.zero_add, Array.replicate_succ, Array.replicate_zero, List.push_toArray, List.append_toArray, List.nil_append, List.cons_append, List.append_nil]
  repeat (first
    | refine y_go rfl ?_
    | (refine y_region ?_; simp only [rg, Nat.reduceAdd, List.range, List.range.loop])
    | (refine y_nw rfl (by rfl) rfl (by exact nx rfl) (fun dd hS K hK => ?_); go_simp; refine hK _ _ _ ?_; clear hK K hS dd; simp only [recOf]; try walk_nrm)
    | (refine y_unwanted rfl (by rfl) ?_; try walk_nrm) | refine y_condT rfl ?_ | refine y_condF rfl ?_
    | refine y_block ?_ | refine y_label ?_ | refine y_ret ?_ | refine y_end ?_)
  refine y_leave rfl rfl Try.func138 (resultsC_tmp rfl _) ?_
  exact H _ _ _ ⟨rfl, rfl, rfl⟩

theorem live_nil : CallsX J 139 #[.pointer none] σ w fun v σ' w' => v = .bool false ∧ σ' = σ ∧ w' = w := by
  refine callsX_body Try.func139 rfl fun c cs H HN => ?_
  simp only [Try.f139, Try.ntmps139, List.size_toArray, List.length_cons, List.length_nil, Nat.reduceAdd, Nat.reduceSub, Nat.zero_add, Array.replicate_succ, Array.replicate_zero, List.push_toArray, List.append_toArray, List.nil_append, List.cons_append, List.append_nil]
  repeat (first
    | refine y_go rfl ?_
    | (refine y_region ?_; simp only [rg, Nat.reduceAdd, List.range, List.range.loop])
    | (refine y_nw rfl (by rfl) rfl (by exact nx rfl) (fun dd hS K hK => ?_); go_simp; refine hK _ _ _ ?_; clear hK K hS dd; simp only [recOf]; try walk_nrm)
    | (refine y_unwanted rfl (by rfl) ?_; try walk_nrm) | refine y_condT rfl ?_ | refine y_condF rfl ?_
    | refine y_block ?_ | refine y_label ?_ | refine y_ret ?_ | refine y_end ?_)
  refine y_leave rfl rfl Try.func139 (resultsC_tmp rfl _) ?_
  exact H _ _ _ ⟨rfl, rfl, rfl⟩

/-! ### the atomic number -/
theorem i64_load (ad : Addr) (v : Int) (hc : w.cell? ad = some (.int .i64 v)) : CallsX J 141 #[.pointer (some ad)] σ w fun r σ' w' => r = .int .i64 v ∧ σ' = σ ∧ w' = w := by
  refine callsX_body Try.func141 rfl fun c cs H HN => ?_
  simp only [Try.f141, Try.ntmps141, List.size_toArray, List.length_cons, List.length_nil, Nat.reduceAdd, Nat.reduceSub, Nat.zero_add, Array.replicate_succ, Array.replicate_zero, List.push_toArray, List.append_toArray, List.nil_append, List.cons_append, List.append_nil]
  repeat (first
    | refine y_go rfl ?_
    | (refine y_region ?_; simp only [rg, Nat.reduceAdd, List.range, List.range.loop])
    | (refine y_nw rfl (by rfl) rfl (by exact nx rfl) (fun dd hS K hK => ?_); go_simp; refine hK _ _ _ ?_; clear hK K hS dd; simp only [recOf]; try walk_nrm)
    | (refine y_unwanted rfl (by rfl) ?_; try walk_nrm) | refine y_condT rfl ?_ | refine y_condF rfl ?_
    | refine y_block ?_ | refine y_label ?_ | refine y_ret ?_ | refine y_end ?_)
  refine y_aload .i64 rfl (by rfl) rfl rfl Try.func180 (by kernel_rfl) (by kernel_rfl) (by kernel_rfl) (by kernel_rfl) rfl hc ?_; try walk_nrm
  repeat (first
    | refine y_go rfl ?_
    | (refine y_region ?_; simp only [rg, Nat.reduceAdd, List.range, List.range.loop])
    | (refine y_nw rfl (by rfl) rfl (by exact nx rfl) (fun dd hS K hK => ?_); go_simp; refine hK _ _ _ ?_; clear hK K hS dd; simp only [recOf]; try walk_nrm)
    | (refine y_unwanted rfl (by rfl) ?_; try walk_nrm) | refine y_condT rfl ?_ | refine y_condF rfl ?_
    | refine y_block ?_ | refine y_label ?_ | refine y_ret ?_ | refine y_end ?_)
  refine y_leave rfl rfl Try.func141 (resultsC_tmp rfl _) ?_
  exact H _ _ _ ⟨rfl, rfl, rfl⟩

theorem i64_store (ad : Addr) (u : Value) (v : Int) (hc : w.cell? ad = some u) (hz : w.frozen? ad = false) (hf : σ.Free (· = ad.block)) : CallsX J 120 #[.pointer (some ad), .int .i64 v] σ w fun r σ' w' => r = .tuple #[] ∧ σ' = σ ∧ w' = w.setCell ad (.int .i64 v) := by
  refine callsX_body Try.func120 rfl fun c cs H HN => ?_
  simp only [Try.f120, Try.ntmps120, List.size_toArray, List.length_cons, List.length_nil, Nat.reduceAdd, Nat.reduceSub, Nat.zero_add, Array.replicate_succ, Array.replicate_zero, List.push_toArray, List.append_toArray, List.nil_append, List.cons_append, List.append_nil]
  repeat (first
    | refine y_go rfl ?_
    | (refine y_region ?_; simp only [rg, Nat.reduceAdd, List.range, List.range.loop])
    | (refine y_nw rfl (by rfl) rfl (by exact nx rfl) (fun dd hS K hK => ?_); go_simp; refine hK _ _ _ ?_; clear hK K hS dd; simp only [recOf]; try walk_nrm)
    | (refine y_unwanted rfl (by rfl) ?_; try walk_nrm) | refine y_condT rfl ?_ | refine y_condF rfl ?_
    | refine y_block ?_ | refine y_label ?_ | refine y_ret ?_ | refine y_end ?_)
  refine y_astore rfl (by rfl) rfl rfl Try.func170 (by kernel_rfl) (by kernel_rfl) (by kernel_rfl) (by kernel_rfl) rfl rfl hc hz hf ?_; try walk_nrm
  repeat (first
    | refine y_go rfl ?_
    | (refine y_region ?_; simp only [rg, Nat.reduceAdd, List.range, List.range.loop])
    | (refine y_nw rfl (by rfl) rfl (by exact nx rfl) (fun dd hS K hK => ?_); go_simp; refine hK _ _ _ ?_; clear hK K hS dd; simp only [recOf]; try walk_nrm)
    | (refine y_unwanted rfl (by rfl) ?_; try walk_nrm) | refine y_condT rfl ?_ | refine y_condF rfl ?_
    | refine y_block ?_ | refine y_label ?_ | refine y_ret ?_ | refine y_end ?_)
  refine y_leave rfl rfl Try.func120 (resultsC_none rfl _) ?_
  exact H _ _ _ ⟨rfl, rfl, rfl⟩

theorem i64_add (ad : Addr) (u v : Int) (hc : w.cell? ad = some (.int .i64 u)) (hz : w.frozen? ad = false) (hf : σ.Free (· = ad.block)) : CallsX J 153 #[.pointer (some ad), .int .i64 v] σ w fun r σ' w' => r = .int .i64 (IntKind.i64.wrap (u + v)) ∧ σ' = σ ∧ w' = w.setCell ad (.int .i64 (IntKind.i64.wrap (u + v))) := by
  refine callsX_body Try.func153 rfl fun c cs H HN => ?_
  simp only [Try.f153, Try.ntmps153, List.size_toArray, List.length_cons, List.length_nil, Nat.reduceAdd, Nat.reduceSub, Nat.zero_add, Array.replicate_succ, Array.replicate_zero, List.push_toArray, List.append_toArray, List.nil_append, List.cons_append, List.append_nil]
  repeat (first
    | refine y_go rfl ?_
    | (refine y_region ?_; simp only [rg, Nat.reduceAdd, List.range, List.range.loop])
    | (refine y_nw rfl (by rfl) rfl (by exact nx rfl) (fun dd hS K hK => ?_); go_simp; refine hK _ _ _ ?_; clear hK K hS dd; simp only [recOf]; try walk_nrm)
    | (refine y_unwanted rfl (by rfl) ?_; try walk_nrm) | refine y_condT rfl ?_ | refine y_condF rfl ?_
    | refine y_block ?_ | refine y_label ?_ | refine y_ret ?_ | refine y_end ?_)
  refine y_aadd .i64 rfl (by rfl) rfl rfl Try.func185 (by kernel_rfl) (by kernel_rfl) (by kernel_rfl) (by kernel_rfl) rfl rfl hc hz hf ?_; try walk_nrm
  repeat (first
    | refine y_go rfl ?_
    | (refine y_region ?_; simp only [rg, Nat.reduceAdd, List.range, List.range.loop])
    | (refine y_nw rfl (by rfl) rfl (by exact nx rfl) (fun dd hS K hK => ?_); go_simp; refine hK _ _ _ ?_; clear hK K hS dd; simp only [recOf]; try walk_nrm)
    | (refine y_unwanted rfl (by rfl) ?_; try walk_nrm) | refine y_condT rfl ?_ | refine y_condF rfl ?_
    | refine y_block ?_ | refine y_label ?_ | refine y_ret ?_ | refine y_end ?_)
  refine y_leave rfl rfl Try.func153 (resultsC_tmp rfl _) ?_
  exact H _ _ _ ⟨rfl, rfl, rfl⟩

theorem i64_swap (ad : Addr) (u v : Int) (hc : w.cell? ad = some (.int .i64 u)) (hz : w.frozen? ad = false) (hf : σ.Free (· = ad.block)) : CallsX J 155 #[.pointer (some ad), .int .i64 v] σ w fun r σ' w' => r = .int .i64 u ∧ σ' = σ ∧ w' = w.setCell ad (.int .i64 v) := by
  refine callsX_body Try.func155 rfl fun c cs H HN => ?_
  simp only [Try.f155, Try.ntmps155, List.size_toArray, List.length_cons, List.length_nil, Nat.reduceAdd, Nat.reduceSub, Nat.zero_add, Array.replicate_succ, Array.replicate_zero, List.push_toArray, List.append_toArray, List.nil_append, List.cons_append, List.append_nil]
  repeat (first
    | refine y_go rfl ?_
    | (refine y_region ?_; simp only [rg, Nat.reduceAdd, List.range, List.range.loop])
    | (refine y_nw rfl (by rfl) rfl (by exact nx rfl) (fun dd hS K hK => ?_); go_simp; refine hK _ _ _ ?_; clear hK K hS dd; simp only [recOf]; try walk_nrm)
    | (refine y_unwanted rfl (by rfl) ?_; try walk_nrm) | refine y_condT rfl ?_ | refine y_condF rfl ?_
    | refine y_block ?_ | refine y_label ?_ | refine y_ret ?_ | refine y_end ?_)
  refine y_aswap .i64 rfl (by rfl) rfl rfl Try.func186 (by kernel_rfl) (by kernel_rfl) (by kernel_rfl) (by kernel_rfl) rfl rfl hc hz hf ?_; try walk_nrm
  repeat (first
    | refine y_go rfl ?_
    | (refine y_region ?_; simp only [rg, Nat.reduceAdd, List.range, List.range.loop])
    | (refine y_nw rfl (by rfl) rfl (by exact nx rfl) (fun dd hS K hK => ?_); go_simp; refine hK _ _ _ ?_; clear hK K hS dd; simp only [recOf]; try walk_nrm)
    | (refine y_unwanted rfl (by rfl) ?_; try walk_nrm) | refine y_condT rfl ?_ | refine y_condF rfl ?_
    | refine y_block ?_ | refine y_label ?_ | refine y_ret ?_ | refine y_end ?_)
  refine y_leave rfl rfl Try.func155 (resultsC_tmp rfl _) ?_
  exact H _ _ _ ⟨rfl, rfl, rfl⟩

theorem i64_cas (ad : Addr) (u old v : Int) (hc : w.cell? ad = some (.int .i64 u)) (hz : w.frozen? ad = false) (hf : σ.Free (· = ad.block)) : CallsX J 156 #[.pointer (some ad), .int .i64 old, .int .i64 v] σ w fun r σ' w' => r = .bool (decide (u = old)) ∧ σ' = σ ∧ w' = if u = old then w.setCell ad (.int .i64 v) else w := by
  by_cases e : u = old
  · subst e
    refine callsX_body Try.func156 rfl fun c cs H HN => ?_
    simp only [Try.f156, Try.ntmps156, List.size_toArray, List.length_cons, List.length_nil, Nat.reduceAdd, Nat.reduceSub, Nat.zero_add, Array.replicate_succ, Array.replicate_zero, List.push_toArray, List.append_toArray, List.nil_append, List.cons_append, List.append_nil]
    repeat (first
      | refine y_go rfl ?_
      | (refine y_region ?_; simp only [rg, Nat.reduceAdd, List.range, List.range.loop])
      | (refine y_nw rfl (by rfl) rfl (by exact nx rfl) (fun dd hS K hK => ?_); go_simp; refine hK _ _ _ ?_; clear hK K hS dd; simp only [recOf]; try walk_nrm)
      | (refine y_unwanted rfl (by rfl) ?_; try walk_nrm) | refine y_condT rfl ?_ | refine y_condF rfl ?_
      | refine y_block ?_ | refine y_label ?_ | refine y_ret ?_ | refine y_end ?_)
    refine y_acas_hit .i64 rfl (by rfl) rfl rfl Try.func187 (by kernel_rfl) (by kernel_rfl) (by kernel_rfl) (by kernel_rfl) rfl rfl rfl hc hz hf ?_; try walk_nrm
    repeat (first
      | refine y_go rfl ?_
      | (refine y_region ?_; simp only [rg, Nat.reduceAdd, List.range, List.range.loop])
      | (refine y_nw rfl (by rfl) rfl (by exact nx rfl) (fun dd hS K hK => ?_); go_simp; refine hK _ _ _ ?_; clear hK K hS dd; simp only [recOf]; try walk_nrm)
      | (refine y_unwanted rfl (by rfl) ?_; try walk_nrm) | refine y_condT rfl ?_ | refine y_condF rfl ?_
      | refine y_block ?_ | refine y_label ?_ | refine y_ret ?_ | refine y_end ?_)
    refine y_leave rfl rfl Try.func156 (resultsC_tmp rfl _) ?_
    exact H _ _ _ ⟨by simp, rfl, by simp⟩
  · refine callsX_body Try.func156 rfl fun c cs H HN => ?_
    simp only [Try.f156, Try.ntmps156, List.size_toArray, List.length_cons, List.length_nil, Nat.reduceAdd, Nat.reduceSub, Nat.zero_add, Array.replicate_succ, Array.replicate_zero, List.push_toArray, List.append_toArray, List.nil_append, List.cons_append, List.append_nil]
    repeat (first
      | refine y_go rfl ?_
      | (refine y_region ?_; simp only [rg, Nat.reduceAdd, List.range, List.range.loop])
      | (refine y_nw rfl (by rfl) rfl (by exact nx rfl) (fun dd hS K hK => ?_); go_simp; refine hK _ _ _ ?_; clear hK K hS dd; simp only [recOf]; try walk_nrm)
      | (refine y_unwanted rfl (by rfl) ?_; try walk_nrm) | refine y_condT rfl ?_ | refine y_condF rfl ?_
      | refine y_block ?_ | refine y_label ?_ | refine y_ret ?_ | refine y_end ?_)
    refine y_acas_miss .i64 rfl (by rfl) rfl rfl Try.func187 (by kernel_rfl) (by kernel_rfl) (by kernel_rfl) (by kernel_rfl) rfl rfl rfl hc hz e ?_; try walk_nrm
    repeat (first
      | refine y_go rfl ?_
      | (refine y_region ?_; simp only [rg, Nat.reduceAdd, List.range, List.range.loop])
      | (refine y_nw rfl (by rfl) rfl (by exact nx rfl) (fun dd hS K hK => ?_); go_simp; refine hK _ _ _ ?_; clear hK K hS dd; simp only [recOf]; try walk_nrm)
      | (refine y_unwanted rfl (by rfl) ?_; try walk_nrm) | refine y_condT rfl ?_ | refine y_condF rfl ?_
      | refine y_block ?_ | refine y_label ?_ | refine y_ret ?_ | refine y_end ?_)
    refine y_leave rfl rfl Try.func156 (resultsC_tmp rfl _) ?_
    exact H _ _ _ ⟨by simp [e], rfl, by simp [e]⟩

/-! ### the lock, nobody else about -/
theorem setCell_back {ad : Addr} {u v : Value} (hc : w.cell? ad = some u) : (w.setCell ad v).setCell ad u = w := by
  have key : ((w.setCell ad v).setCell ad u).heap = w.heap := by
    unfold World.setCell
    apply Array.ext_getElem?
    intro i
    simp only [Array.getElem?_modify]
    split
    · rename_i e
      subst e
      unfold World.cell? at hc
      cases h : w.heap[ad.block]? with
      | none => rw [h] at hc; cases hc
      | some o =>
        rw [h] at hc
        cases o with
        | cells c e f =>
          simp only at hc
          split at hc
          · cases hc
          · rename_i hs
            simp only [Option.map_some, hs]
            congr 2
            apply Array.ext_getElem?
            intro j
            obtain ⟨hlt, hj⟩ := Array.getElem?_eq_some_iff.1 hc
            by_cases e2 : ad.off = j
            · subst e2; simp [hlt, hj]
            · simp [Array.getElem?_setIfInBounds_ne e2]
        | _ => cases hc
    · rfl
  calc (w.setCell ad v).setCell ad u = { w with heap := ((w.setCell ad v).setCell ad u).heap } := rfl
    _ = w := by rw [key]
theorem cell_set {ad : Addr} {u v : Value} (hc : w.cell? ad = some u) : (w.setCell ad v).cell? ad = some v := by
  unfold World.cell? at hc
  unfold World.cell? World.setCell
  simp only [Array.getElem?_modify, if_true]
  cases h : w.heap[ad.block]? with
  | none => rw [h] at hc; cases hc
  | some o =>
    rw [h] at hc
    cases o with
    | cells c e f =>
      simp only at hc
      split at hc
      · cases hc
      · rename_i hs
        obtain ⟨hlt, hj⟩ := Array.getElem?_eq_some_iff.1 hc
        simp [hs, hlt]
    | _ => cases hc
theorem cell_set_ne {ad bd : Addr} {v : Value} (h : ad.block ≠ bd.block ∨ ad.off ≠ bd.off) : (w.setCell ad v).cell? bd = w.cell? bd := by
  unfold World.cell? World.setCell
  simp only [Array.getElem?_modify]
  by_cases e : ad.block = bd.block
  · have h : ad.off ≠ bd.off := h.resolve_left (fun x => x e)
    rw [if_pos e]
    cases w.heap[bd.block]? with
    | none => rfl
    | some o =>
      cases o with
      | cells c e f =>
        simp only [Option.map_some]
        split
        · rfl
        · split
          · rfl
          · rw [Array.getElem?_setIfInBounds_ne h]
      | _ => rfl
  · rw [if_neg e]
theorem frozen_set {ad bd : Addr} {v : Value} : (w.setCell ad v).frozen? bd = w.frozen? bd := by
  unfold World.frozen? World.setCell
  simp only [Array.getElem?_modify]
  by_cases e : ad.block = bd.block
  · rw [if_pos e]
    cases w.heap[bd.block]? with
    | none => rfl
    | some o => cases o <;> rfl
  · rw [if_neg e]

theorem ilock_free (ad : Addr) (hc : w.cell? ad = some (.int .i32 0)) (hz : w.frozen? ad = false) (hf : σ.Free (· = ad.block)) : CallsX J 214 #[.pointer (some ad)] σ w fun r σ' w' => r = .tuple #[] ∧ σ' = σ ∧ w' = w.setCell ad (.int .i32 1) := by
  refine callsX_body Try.func214 rfl fun c cs H HN => ?_
  simp only [Try.f214, Try.ntmps214, List.size_toArray, List.length_cons, List.length_nil, Nat.reduceAdd, Nat.reduceSub, Nat.zero_add, Array.replicate_succ, Array.replicate_zero, List.push_toArray, List.append_toArray, List.nil_append, List.cons_append, List.append_nil]
  repeat (first
    | refine y_go rfl ?_
    | (refine y_region ?_; simp only [rg, Nat.reduceAdd, List.range, List.range.loop])
    | (refine y_nw rfl (by rfl) rfl (by exact nx rfl) (fun dd hS K hK => ?_); go_simp; refine hK _ _ _ ?_; clear hK K hS dd; simp only [recOf]; try walk_nrm)
    | (refine y_unwanted rfl (by rfl) ?_; try walk_nrm) | refine y_condT rfl ?_ | refine y_condF rfl ?_
    | refine y_block ?_ | refine y_label ?_ | refine y_ret ?_ | refine y_end ?_)
  refine y_disable rfl (by rfl) rfl rfl Try.func189 (by kernel_rfl) (by kernel_rfl) (by kernel_rfl) (by kernel_rfl)  ?_; try walk_nrm
  repeat (first
    | refine y_go rfl ?_
    | (refine y_region ?_; simp only [rg, Nat.reduceAdd, List.range, List.range.loop])
    | (refine y_nw rfl (by rfl) rfl (by exact nx rfl) (fun dd hS K hK => ?_); go_simp; refine hK _ _ _ ?_; clear hK K hS dd; simp only [recOf]; try walk_nrm)
    | (refine y_unwanted rfl (by rfl) ?_; try walk_nrm) | refine y_condT rfl ?_ | refine y_condF rfl ?_
    | refine y_block ?_ | refine y_label ?_ | refine y_ret ?_ | refine y_end ?_)
  refine y_acas_hit .i32 rfl (by rfl) rfl rfl Try.func221 (by kernel_rfl) (by kernel_rfl) (by kernel_rfl) (by kernel_rfl) rfl rfl rfl hc hz hf ?_; try walk_nrm
  repeat (first
    | refine y_go rfl ?_
    | (refine y_region ?_; simp only [rg, Nat.reduceAdd, List.range, List.range.loop])
    | (refine y_nw rfl (by rfl) rfl (by exact nx rfl) (fun dd hS K hK => ?_); go_simp; refine hK _ _ _ ?_; clear hK K hS dd; simp only [recOf]; try walk_nrm)
    | (refine y_unwanted rfl (by rfl) ?_; try walk_nrm) | refine y_condT rfl ?_ | refine y_condF rfl ?_
    | refine y_block ?_ | refine y_label ?_ | refine y_ret ?_ | refine y_end ?_)
  refine y_enable rfl (by rfl) rfl rfl Try.func190 (by kernel_rfl) (by kernel_rfl) (by kernel_rfl) (by kernel_rfl)  ?_; try walk_nrm
  repeat (first
    | refine y_go rfl ?_
    | (refine y_region ?_; simp only [rg, Nat.reduceAdd, List.range, List.range.loop])
    | (refine y_nw rfl (by rfl) rfl (by exact nx rfl) (fun dd hS K hK => ?_); go_simp; refine hK _ _ _ ?_; clear hK K hS dd; simp only [recOf]; try walk_nrm)
    | (refine y_unwanted rfl (by rfl) ?_; try walk_nrm) | refine y_condT rfl ?_ | refine y_condF rfl ?_
    | refine y_block ?_ | refine y_label ?_ | refine y_ret ?_ | refine y_end ?_)
  (refine y_unsafe rfl (by rfl) rfl rfl Try.underlying294 Try.underlying270 (by kernel_rfl) rfl (cell_set hc) ?_; try walk_nrm)
  repeat (first
    | refine y_go rfl ?_
    | (refine y_region ?_; simp only [rg, Nat.reduceAdd, List.range, List.range.loop])
    | (refine y_nw rfl (by rfl) rfl (by exact nx rfl) (fun dd hS K hK => ?_); go_simp; refine hK _ _ _ ?_; clear hK K hS dd; simp only [recOf]; try walk_nrm)
    | (refine y_unwanted rfl (by rfl) ?_; try walk_nrm) | refine y_condT rfl ?_ | refine y_condF rfl ?_
    | refine y_block ?_ | refine y_label ?_ | refine y_ret ?_ | refine y_end ?_)
  refine y_markAt .acquire (fun ad => ⟨rfl, by simp, by simp, by simp⟩) rfl (by rfl) rfl rfl Try.func201 (by kernel_rfl) (by kernel_rfl) (by kernel_rfl) (by kernel_rfl) rfl ?_; try walk_nrm
  repeat (first
    | refine y_go rfl ?_
    | (refine y_region ?_; simp only [rg, Nat.reduceAdd, List.range, List.range.loop])
    | (refine y_nw rfl (by rfl) rfl (by exact nx rfl) (fun dd hS K hK => ?_); go_simp; refine hK _ _ _ ?_; clear hK K hS dd; simp only [recOf]; try walk_nrm)
    | (refine y_unwanted rfl (by rfl) ?_; try walk_nrm) | refine y_condT rfl ?_ | refine y_condF rfl ?_
    | refine y_block ?_ | refine y_label ?_ | refine y_ret ?_ | refine y_end ?_)
  refine y_leave rfl rfl Try.func214 (resultsC_none rfl _) ?_
  exact H _ _ _ ⟨rfl, rfl, rfl⟩

theorem lock_free (ad : Addr) (hc : w.cell? ad = some (.int .i32 0)) (hz : w.frozen? ad = false) (hf : σ.Free (· = ad.block)) : CallsX J 183 #[.pointer (some ad)] σ w fun r σ' w' => r = .tuple #[] ∧ σ' = σ ∧ w' = w.setCell ad (.int .i32 1) := by
  refine callsX_body Try.func183 rfl fun c cs H HN => ?_
  simp only [Try.f183, Try.ntmps183, List.size_toArray, List.length_cons, List.length_nil, Nat.reduceAdd, Nat.reduceSub, Nat.zero_add, Array.replicate_succ, Array.replicate_zero, List.push_toArray, List.append_toArray, List.nil_append, List.cons_append, List.append_nil]
  repeat (first
    | refine y_go rfl ?_
    | (refine y_region ?_; simp only [rg, Nat.reduceAdd, List.range, List.range.loop])
    | (refine y_nw rfl (by rfl) rfl (by exact nx rfl) (fun dd hS K hK => ?_); go_simp; refine hK _ _ _ ?_; clear hK K hS dd; simp only [recOf]; try walk_nrm)
    | (refine y_unwanted rfl (by rfl) ?_; try walk_nrm) | refine y_condT rfl ?_ | refine y_condF rfl ?_
    | refine y_block ?_ | refine y_label ?_ | refine y_ret ?_ | refine y_end ?_)
  refine y_callR rfl (by rfl) rfl rfl Try.func214 (by kernel_rfl) (by kernel_rfl) (ilock_free ad hc hz hf) (by simp only [List.map_toArray, List.map_cons, List.map_nil] <;> rfl) ?_
  rintro _ σ'' w'' ⟨rfl, e2, e3⟩
  rw [e2, e3]
  clear e2 e3 w'' σ''
  walk_nrm
  repeat (first
    | refine y_go rfl ?_
    | (refine y_region ?_; simp only [rg, Nat.reduceAdd, List.range, List.range.loop])
    | (refine y_nw rfl (by rfl) rfl (by exact nx rfl) (fun dd hS K hK => ?_); go_simp; refine hK _ _ _ ?_; clear hK K hS dd; simp only [recOf]; try walk_nrm)
    | (refine y_unwanted rfl (by rfl) ?_; try walk_nrm) | refine y_condT rfl ?_ | refine y_condF rfl ?_
    | refine y_block ?_ | refine y_label ?_ | refine y_ret ?_ | refine y_end ?_)
  refine y_leave rfl rfl Try.func183 (resultsC_none rfl _) ?_
  exact H _ _ _ ⟨rfl, rfl, rfl⟩

theorem iunlock_held (ad : Addr) (hc : w.cell? ad = some (.int .i32 1)) (hz : w.frozen? ad = false) (hf : σ.Free (· = ad.block)) : CallsX J 215 #[.pointer (some ad)] σ w fun r σ' w' => r = .tuple #[] ∧ σ' = σ ∧ w' = w.setCell ad (.int .i32 0) := by
  refine callsX_body Try.func215 rfl fun c cs H HN => ?_
  simp only [Try.f215, Try.ntmps215, List.size_toArray, List.length_cons, List.length_nil, Nat.reduceAdd, Nat.reduceSub, Nat.zero_add, Array.replicate_succ, Array.replicate_zero, List.push_toArray, List.append_toArray, List.nil_append, List.cons_append, List.append_nil]
  repeat (first
    | refine y_go rfl ?_
    | (refine y_region ?_; simp only [rg, Nat.reduceAdd, List.range, List.range.loop])
    | (refine y_nw rfl (by rfl) rfl (by exact nx rfl) (fun dd hS K hK => ?_); go_simp; refine hK _ _ _ ?_; clear hK K hS dd; simp only [recOf]; try walk_nrm)
    | (refine y_unwanted rfl (by rfl) ?_; try walk_nrm) | refine y_condT rfl ?_ | refine y_condF rfl ?_
    | refine y_block ?_ | refine y_label ?_ | refine y_ret ?_ | refine y_end ?_)
  (refine y_unsafe rfl (by rfl) rfl rfl Try.underlying294 Try.underlying270 (by kernel_rfl) rfl hc ?_; try walk_nrm)
  repeat (first
    | refine y_go rfl ?_
    | (refine y_region ?_; simp only [rg, Nat.reduceAdd, List.range, List.range.loop])
    | (refine y_nw rfl (by rfl) rfl (by exact nx rfl) (fun dd hS K hK => ?_); go_simp; refine hK _ _ _ ?_; clear hK K hS dd; simp only [recOf]; try walk_nrm)
    | (refine y_unwanted rfl (by rfl) ?_; try walk_nrm) | refine y_condT rfl ?_ | refine y_condF rfl ?_
    | refine y_block ?_ | refine y_label ?_ | refine y_ret ?_ | refine y_end ?_)
  refine y_markAt .releaseMerge (fun ad => ⟨rfl, by simp, by simp, by simp⟩) rfl (by rfl) rfl rfl Try.func188 (by kernel_rfl) (by kernel_rfl) (by kernel_rfl) (by kernel_rfl) rfl ?_; try walk_nrm
  repeat (first
    | refine y_go rfl ?_
    | (refine y_region ?_; simp only [rg, Nat.reduceAdd, List.range, List.range.loop])
    | (refine y_nw rfl (by rfl) rfl (by exact nx rfl) (fun dd hS K hK => ?_); go_simp; refine hK _ _ _ ?_; clear hK K hS dd; simp only [recOf]; try walk_nrm)
    | (refine y_unwanted rfl (by rfl) ?_; try walk_nrm) | refine y_condT rfl ?_ | refine y_condF rfl ?_
    | refine y_block ?_ | refine y_label ?_ | refine y_ret ?_ | refine y_end ?_)
  refine y_disable rfl (by rfl) rfl rfl Try.func189 (by kernel_rfl) (by kernel_rfl) (by kernel_rfl) (by kernel_rfl)  ?_; try walk_nrm
  repeat (first
    | refine y_go rfl ?_
    | (refine y_region ?_; simp only [rg, Nat.reduceAdd, List.range, List.range.loop])
    | (refine y_nw rfl (by rfl) rfl (by exact nx rfl) (fun dd hS K hK => ?_); go_simp; refine hK _ _ _ ?_; clear hK K hS dd; simp only [recOf]; try walk_nrm)
    | (refine y_unwanted rfl (by rfl) ?_; try walk_nrm) | refine y_condT rfl ?_ | refine y_condF rfl ?_
    | refine y_block ?_ | refine y_label ?_ | refine y_ret ?_ | refine y_end ?_)
  refine y_aadd .i32 rfl (by rfl) rfl rfl Try.func223 (by kernel_rfl) (by kernel_rfl) (by kernel_rfl) (by kernel_rfl) rfl rfl hc hz hf ?_; try walk_nrm
  have e : IntKind.i32.wrap (1 + -1) = 0 := by decide
  simp only [e]
  repeat (first
    | refine y_go rfl ?_
    | (refine y_region ?_; simp only [rg, Nat.reduceAdd, List.range, List.range.loop])
    | (refine y_nw rfl (by rfl) rfl (by exact nx rfl) (fun dd hS K hK => ?_); go_simp; refine hK _ _ _ ?_; clear hK K hS dd; simp only [recOf]; try walk_nrm)
    | (refine y_unwanted rfl (by rfl) ?_; try walk_nrm) | refine y_condT rfl ?_ | refine y_condF rfl ?_
    | refine y_block ?_ | refine y_label ?_ | refine y_ret ?_ | refine y_end ?_)
  refine y_enable rfl (by rfl) rfl rfl Try.func190 (by kernel_rfl) (by kernel_rfl) (by kernel_rfl) (by kernel_rfl)  ?_; try walk_nrm
  repeat (first
    | refine y_go rfl ?_
    | (refine y_region ?_; simp only [rg, Nat.reduceAdd, List.range, List.range.loop])
    | (refine y_nw rfl (by rfl) rfl (by exact nx rfl) (fun dd hS K hK => ?_); go_simp; refine hK _ _ _ ?_; clear hK K hS dd; simp only [recOf]; try walk_nrm)
    | (refine y_unwanted rfl (by rfl) ?_; try walk_nrm) | refine y_condT rfl ?_ | refine y_condF rfl ?_
    | refine y_block ?_ | refine y_label ?_ | refine y_ret ?_ | refine y_end ?_)
  refine y_leave rfl rfl Try.func215 (resultsC_none rfl _) ?_
  exact H _ _ _ ⟨rfl, rfl, rfl⟩

theorem unlock_held (ad : Addr) (hc : w.cell? ad = some (.int .i32 1)) (hz : w.frozen? ad = false) (hf : σ.Free (· = ad.block)) : CallsXD J 184 #[.pointer (some ad)] σ w fun σ' w' => σ' = σ ∧ w' = w.setCell ad (.int .i32 0) := by
  refine callsD_body Try.func184 rfl fun c cs hm H => ?_
  simp only [Try.f184, Try.ntmps184, List.size_toArray, List.length_cons, List.length_nil, Nat.reduceAdd, Nat.reduceSub, Nat.zero_add, Array.replicate_succ, Array.replicate_zero, List.push_toArray, List.append_toArray, List.nil_append, List.cons_append, List.append_nil]
  repeat (first
    | refine y_go rfl ?_
    | (refine y_region ?_; simp only [rg, Nat.reduceAdd, List.range, List.range.loop])
    | (refine y_nw rfl (by rfl) rfl (by exact nx rfl) (fun dd hS K hK => ?_); go_simp; refine hK _ _ _ ?_; clear hK K hS dd; simp only [recOf]; try walk_nrm)
    | (refine y_unwanted rfl (by rfl) ?_; try walk_nrm) | refine y_condT rfl ?_ | refine y_condF rfl ?_
    | refine y_block ?_ | refine y_label ?_ | refine y_ret ?_ | refine y_end ?_)
  refine y_callR rfl (by rfl) rfl rfl Try.func215 (by kernel_rfl) (by kernel_rfl) (iunlock_held ad hc hz hf) (by simp only [List.map_toArray, List.map_cons, List.map_nil] <;> rfl) ?_
  rintro _ σ'' w'' ⟨rfl, e2, e3⟩
  rw [e2, e3]
  clear e2 e3 w'' σ''
  walk_nrm
  repeat (first
    | refine y_go rfl ?_
    | (refine y_region ?_; simp only [rg, Nat.reduceAdd, List.range, List.range.loop])
    | (refine y_nw rfl (by rfl) rfl (by exact nx rfl) (fun dd hS K hK => ?_); go_simp; refine hK _ _ _ ?_; clear hK K hS dd; simp only [recOf]; try walk_nrm)
    | (refine y_unwanted rfl (by rfl) ?_; try walk_nrm) | refine y_condT rfl ?_ | refine y_condF rfl ?_
    | refine y_block ?_ | refine y_label ?_ | refine y_ret ?_ | refine y_end ?_)
  refine y_leaveD rfl rfl Try.func184 (resultsC_none rfl _) hm ?_
  exact H _ _ ⟨rfl, rfl⟩

/-! ### a cell that nobody sleeps at, its lock free -/
def CellIs (w : World) (b : Nat) (v : Int) : Prop := w.heap[b]? = some (.cells #[.int .i64 v, .bool true, .int .i32 0, .int .u32 0, .chan none] 81)

theorem CellIs.v {b : Nat} {v : Int} (h : CellIs w b v) : w.cell? ⟨b, 0, none⟩ = some (.int .i64 v) := by unfold World.cell?; rw [h]; rfl
theorem CellIs.made {b : Nat} {v : Int} (h : CellIs w b v) : w.cell? ⟨b, 1, none⟩ = some (.bool true) := by unfold World.cell?; rw [h]; rfl
theorem CellIs.state {b : Nat} {v : Int} (h : CellIs w b v) : w.cell? ⟨b, 2, none⟩ = some (.int .i32 0) := by unfold World.cell?; rw [h]; rfl
theorem CellIs.change {b : Nat} {v : Int} (h : CellIs w b v) : w.cell? ⟨b, 4, none⟩ = some (.chan none) := by unfold World.cell?; rw [h]; rfl
theorem CellIs.frozen {b : Nat} {v : Int} (h : CellIs w b v) (i : Nat) : w.frozen? ⟨b, i, none⟩ = false := by unfold World.frozen?; rw [h]; simp
theorem CellIs.set {b : Nat} {v : Int} (h : CellIs w b v) (u : Int) : CellIs (w.setCell ⟨b, 0, none⟩ (.int .i64 u)) b u := by
  unfold CellIs World.setCell at *
  simp only [Array.getElem?_modify, if_true, h, Option.map_some]
  rfl
theorem CellIs.later {w' : World} {b : Nat} {v : Int} (h : CellIs w b v) (e : w'.heap[b]? = w.heap[b]?) : CellIs w' b v := e.trans h
theorem CellIs.lt {b : Nat} {v : Int} (h : CellIs w b v) : b < w.heap.size := lt_of_get h

theorem wakes_none (b : Nat) (v : Int) (h : CellIs w b v) (hf : σ.Free (· = b)) : CallsX J 154 #[.pointer (some ⟨b, 0, none⟩)] σ w fun r σ' w' => r = .tuple #[] ∧ σ' = σ ∧ w' = w := by
  have hl : (w.setCell ⟨b, 2, none⟩ (.int .i32 1)).cell? ⟨b, 4, none⟩ = some (.chan none) := (cell_set_ne (.inr (by simp))).trans h.change
  refine callsX_body Try.func154 rfl fun c cs H HN => ?_
  simp only [Try.f154, Try.ntmps154, List.size_toArray, List.length_cons, List.length_nil, Nat.reduceAdd, Nat.reduceSub, Nat.zero_add, Array.replicate_succ, Array.replicate_zero, List.push_toArray, List.append_toArray, List.nil_append, List.cons_append, List.append_nil]
  repeat (first
    | refine y_go rfl ?_
    | (refine y_region ?_; simp only [rg, Nat.reduceAdd, List.range, List.range.loop])
    | (refine y_nw rfl (by rfl) rfl (by exact nx rfl) (fun dd hS K hK => ?_); go_simp; refine hK _ _ _ ?_; clear hK K hS dd; simp only [recOf]; try walk_nrm)
    | (refine y_unwanted rfl (by rfl) ?_; try walk_nrm) | refine y_condT rfl ?_ | refine y_condF rfl ?_
    | refine y_block ?_ | refine y_label ?_ | refine y_ret ?_ | refine y_end ?_)
  refine y_callR rfl (by rfl) rfl rfl Try.func183 (by kernel_rfl) (by kernel_rfl) (lock_free ⟨b, 2, none⟩ h.state (h.frozen 2) hf) (by simp only [List.map_toArray, List.map_cons, List.map_nil] <;> rfl) ?_
  rintro _ σ'' w'' ⟨rfl, e2, e3⟩
  rw [e2, e3]
  clear e2 e3 w'' σ''
  walk_nrm
  repeat (first
    | refine y_go rfl ?_
    | (refine y_region ?_; simp only [rg, Nat.reduceAdd, List.range, List.range.loop])
    | (refine y_nw rfl (by rfl) rfl (by exact nx rfl) (fun dd hS K hK => ?_); go_simp; refine hK _ _ _ ?_; clear hK K hS dd; simp only [recOf]; try walk_nrm)
    | (refine y_unwanted rfl (by rfl) ?_; try walk_nrm) | refine y_condT rfl ?_ | refine y_condF rfl ?_
    | refine y_block ?_ | refine y_label ?_ | refine y_ret ?_ | refine y_end ?_)
  (refine y_defer rfl (by rfl) rfl rfl ?_; try walk_nrm)
  repeat (first
    | refine y_go rfl ?_
    | (refine y_region ?_; simp only [rg, Nat.reduceAdd, List.range, List.range.loop])
    | (refine y_nw rfl (by rfl) rfl (by exact nx rfl) (fun dd hS K hK => ?_); go_simp; refine hK _ _ _ ?_; clear hK K hS dd; simp only [recOf]; try walk_nrm)
    | (refine y_unwanted rfl (by rfl) ?_; try walk_nrm) | refine y_condT rfl ?_ | refine y_condF rfl ?_
    | refine y_block ?_ | refine y_label ?_ | refine y_ret ?_ | refine y_end ?_)
  refine y_unwind rfl Try.func184 (by kernel_rfl) (by kernel_rfl) (unlock_held ⟨b, 2, none⟩ (cell_set h.state) (frozen_set.trans (h.frozen 2)) hf) ?_
  rintro _ _ ⟨rfl, rfl⟩
  rw [setCell_back h.state]
  refine y_leave rfl rfl Try.func154 (resultsC_none rfl _) ?_
  exact H _ _ _ ⟨rfl, rfl, rfl⟩


/-! ### threads that do not live -/
def Off (w : World) (t : Value) : Prop := t = .pointer none
theorem live_off {t : Value} (h : Off w t) : CallsX J 139 #[t] σ w fun v σ' w' => v = .bool false ∧ σ' = σ ∧ w' = w := by
  obtain rfl := h; exact live_nil

theorem alloc_set (w : World) (c : Array Value) (e : TypeId) (i : Nat) (v : Value) : (w.alloc (.cells c e)).setCell ⟨w.heap.size, i, none⟩ v = w.alloc (.cells (c.setIfInBounds i v) e) := by
  have : ((w.alloc (.cells c e)).setCell ⟨w.heap.size, i, none⟩ v).heap = (w.alloc (.cells (c.setIfInBounds i v) e)).heap := by
    unfold World.setCell World.alloc
    apply Array.ext_getElem?
    intro j
    simp only [Array.getElem?_modify, Array.getElem?_push]
    by_cases e1 : w.heap.size = j
    · subst e1; simp
    · have e2 : ¬ j = w.heap.size := fun x => e1 x.symm
      simp [e1, e2]
  calc _ = { w with heap := ((w.alloc (.cells c e)).setCell ⟨w.heap.size, i, none⟩ v).heap } := rfl
    _ = _ := by rw [this]; rfl

def cellObj (v : Int) : Obj := .cells #[.int .i64 v, .bool true, .int .i32 0, .int .u32 0, .chan none] 81
theorem cellIs_alloc (w : World) (v : Int) : CellIs (w.alloc (cellObj v)) w.heap.size v := (heap_alloc w _).1
theorem CellIs.alloc {b : Nat} {v : Int} (h : CellIs w b v) (o : Obj) : CellIs (w.alloc o) b v := ((heap_alloc w o).2 b h.lt).trans h

theorem cell_new (v : Int) : CallsX J 26 #[.int .i64 v] σ w fun r σ' w' => r = .pointer (some ⟨w.heap.size, 0, none⟩) ∧ σ' = σ ∧ w' = w.alloc (cellObj v) ∧ σ.Free (· = w.heap.size) := by
  refine callsX_body Try.func26 rfl fun c cs H HN => ?_
  simp only [Try.f26, Try.ntmps26, List.size_toArray, List.length_cons, List.length_nil, Nat.reduceAdd, Nat.reduceSub, Nat.zero_add, Array.replicate_succ, Array.replicate_zero, List.push_toArray, List.append_toArray, List.nil_append, List.cons_append, List.append_nil]
  refine J.snd _ _ _ fun hS => ?_
  have hfr := free_fresh hS (Nat.le_refl w.heap.size)
  repeat (first
    | refine y_go rfl ?_
    | (refine y_region ?_; simp only [rg, Nat.reduceAdd, List.range, List.range.loop])
    | (refine y_nw rfl (by rfl) rfl (by exact nx rfl) (fun dd hS K hK => ?_); go_simp; refine hK _ _ _ ?_; clear hK K hS dd; simp only [recOf]; try walk_nrm)
    | (refine y_unwanted rfl (by rfl) ?_; try walk_nrm) | refine y_condT rfl ?_ | refine y_condF rfl ?_
    | refine y_block ?_ | refine y_label ?_ | refine y_ret ?_ | refine y_end ?_)
  refine y_callR rfl (by rfl) rfl rfl Try.func120 (by kernel_rfl) (by kernel_rfl) (i64_store ⟨w.heap.size, 0, none⟩ _ v (cellIs_alloc w 0).v ((cellIs_alloc w 0).frozen 0) hfr) (by simp only [List.map_toArray, List.map_cons, List.map_nil] <;> rfl) ?_
  rintro _ σ'' w'' ⟨rfl, e2, e3⟩
  rw [e2, e3]
  clear e2 e3 w'' σ''
  walk_nrm
  repeat (first
    | refine y_go rfl ?_
    | (refine y_region ?_; simp only [rg, Nat.reduceAdd, List.range, List.range.loop])
    | (refine y_nw rfl (by rfl) rfl (by exact nx rfl) (fun dd hS K hK => ?_); go_simp; refine hK _ _ _ ?_; clear hK K hS dd; simp only [recOf]; try walk_nrm)
    | (refine y_unwanted rfl (by rfl) ?_; try walk_nrm) | refine y_condT rfl ?_ | refine y_condF rfl ?_
    | refine y_block ?_ | refine y_label ?_ | refine y_ret ?_ | refine y_end ?_)
  refine y_leave rfl rfl Try.func26 (resultsC_tmp rfl _) ?_
  exact H _ _ _ ⟨rfl, rfl, rfl, hfr⟩

theorem cell_load {b : Nat} {v : Int} {t : Value} (h : CellIs w b v) (ht : Off w t) : CallsX J 41 #[.pointer (some ⟨b, 0, none⟩), t] σ w fun r σ' w' => r = .int .i64 v ∧ σ' = σ ∧ w' = w := by
  refine callsX_body Try.func41 rfl fun c cs H HN => ?_
  simp only [Try.f41, Try.ntmps41, List.size_toArray, List.length_cons, List.length_nil, Nat.reduceAdd, Nat.reduceSub, Nat.zero_add, Array.replicate_succ, Array.replicate_zero, List.push_toArray, List.append_toArray, List.nil_append, List.cons_append, List.append_nil]
  repeat (first
    | refine y_go rfl ?_
    | (refine y_region ?_; simp only [rg, Nat.reduceAdd, List.range, List.range.loop])
    | (refine y_nw rfl (by rfl) rfl (by exact nx rfl) (fun dd hS K hK => ?_); go_simp; refine hK _ _ _ ?_; clear hK K hS dd; simp only [recOf]; try walk_nrm)
    | (refine y_unwanted rfl (by rfl) ?_; try walk_nrm) | refine y_condT rfl ?_ | refine y_condF rfl ?_
    | refine y_block ?_ | refine y_label ?_ | refine y_ret ?_ | refine y_end ?_)
  refine y_callR rfl (by rfl) rfl rfl Try.func138 (by kernel_rfl) (by kernel_rfl) (cell_none_made b true h.made) (by simp only [List.map_toArray, List.map_cons, List.map_nil] <;> rfl) ?_
  rintro _ σ'' w'' ⟨rfl, e2, e3⟩
  rw [e2, e3]
  clear e2 e3 w'' σ''
  walk_nrm
  repeat (first
    | refine y_go rfl ?_
    | (refine y_region ?_; simp only [rg, Nat.reduceAdd, List.range, List.range.loop])
    | (refine y_nw rfl (by rfl) rfl (by exact nx rfl) (fun dd hS K hK => ?_); go_simp; refine hK _ _ _ ?_; clear hK K hS dd; simp only [recOf]; try walk_nrm)
    | (refine y_unwanted rfl (by rfl) ?_; try walk_nrm) | refine y_condT rfl ?_ | refine y_condF rfl ?_
    | refine y_block ?_ | refine y_label ?_ | refine y_ret ?_ | refine y_end ?_)
  refine y_callR rfl (by rfl) rfl rfl Try.func139 (by kernel_rfl) (by kernel_rfl) (live_off ht) (by simp only [List.map_toArray, List.map_cons, List.map_nil] <;> rfl) ?_
  rintro _ σ'' w'' ⟨rfl, e2, e3⟩
  rw [e2, e3]
  clear e2 e3 w'' σ''
  walk_nrm
  repeat (first
    | refine y_go rfl ?_
    | (refine y_region ?_; simp only [rg, Nat.reduceAdd, List.range, List.range.loop])
    | (refine y_nw rfl (by rfl) rfl (by exact nx rfl) (fun dd hS K hK => ?_); go_simp; refine hK _ _ _ ?_; clear hK K hS dd; simp only [recOf]; try walk_nrm)
    | (refine y_unwanted rfl (by rfl) ?_; try walk_nrm) | refine y_condT rfl ?_ | refine y_condF rfl ?_
    | refine y_block ?_ | refine y_label ?_ | refine y_ret ?_ | refine y_end ?_)
  refine y_callR rfl (by rfl) rfl rfl Try.func141 (by kernel_rfl) (by kernel_rfl) (i64_load ⟨b, 0, none⟩ v h.v) (by simp only [List.map_toArray, List.map_cons, List.map_nil] <;> rfl) ?_
  rintro _ σ'' w'' ⟨rfl, e2, e3⟩
  rw [e2, e3]
  clear e2 e3 w'' σ''
  walk_nrm
  repeat (first
    | refine y_go rfl ?_
    | (refine y_region ?_; simp only [rg, Nat.reduceAdd, List.range, List.range.loop])
    | (refine y_nw rfl (by rfl) rfl (by exact nx rfl) (fun dd hS K hK => ?_); go_simp; refine hK _ _ _ ?_; clear hK K hS dd; simp only [recOf]; try walk_nrm)
    | (refine y_unwanted rfl (by rfl) ?_; try walk_nrm) | refine y_condT rfl ?_ | refine y_condF rfl ?_
    | refine y_block ?_ | refine y_label ?_ | refine y_ret ?_ | refine y_end ?_)
  refine y_leave rfl rfl Try.func41 (resultsC_tmp rfl _) ?_
  exact H _ _ _ ⟨rfl, rfl, rfl⟩

theorem cell_store {b : Nat} {v u : Int} {t : Value} (h : CellIs w b v) (ht : Off w t) (hf : σ.Free (· = b)) : CallsX J 62 #[.pointer (some ⟨b, 0, none⟩), t, .int .i64 u] σ w fun r σ' w' => r = .tuple #[] ∧ σ' = σ ∧ w' = w.setCell ⟨b, 0, none⟩ (.int .i64 u) := by
  refine callsX_body Try.func62 rfl fun c cs H HN => ?_
  simp only [Try.f62, Try.ntmps62, List.size_toArray, List.length_cons, List.length_nil, Nat.reduceAdd, Nat.reduceSub, Nat.zero_add, Array.replicate_succ, Array.replicate_zero, List.push_toArray, List.append_toArray, List.nil_append, List.cons_append, List.append_nil]
  repeat (first
    | refine y_go rfl ?_
    | (refine y_region ?_; simp only [rg, Nat.reduceAdd, List.range, List.range.loop])
    | (refine y_nw rfl (by rfl) rfl (by exact nx rfl) (fun dd hS K hK => ?_); go_simp; refine hK _ _ _ ?_; clear hK K hS dd; simp only [recOf]; try walk_nrm)
    | (refine y_unwanted rfl (by rfl) ?_; try walk_nrm) | refine y_condT rfl ?_ | refine y_condF rfl ?_
    | refine y_block ?_ | refine y_label ?_ | refine y_ret ?_ | refine y_end ?_)
  refine y_callR rfl (by rfl) rfl rfl Try.func138 (by kernel_rfl) (by kernel_rfl) (cell_none_made b true h.made) (by simp only [List.map_toArray, List.map_cons, List.map_nil] <;> rfl) ?_
  rintro _ σ'' w'' ⟨rfl, e2, e3⟩
  rw [e2, e3]
  clear e2 e3 w'' σ''
  walk_nrm
  repeat (first
    | refine y_go rfl ?_
    | (refine y_region ?_; simp only [rg, Nat.reduceAdd, List.range, List.range.loop])
    | (refine y_nw rfl (by rfl) rfl (by exact nx rfl) (fun dd hS K hK => ?_); go_simp; refine hK _ _ _ ?_; clear hK K hS dd; simp only [recOf]; try walk_nrm)
    | (refine y_unwanted rfl (by rfl) ?_; try walk_nrm) | refine y_condT rfl ?_ | refine y_condF rfl ?_
    | refine y_block ?_ | refine y_label ?_ | refine y_ret ?_ | refine y_end ?_)
  refine y_callR rfl (by rfl) rfl rfl Try.func139 (by kernel_rfl) (by kernel_rfl) (live_off ht) (by simp only [List.map_toArray, List.map_cons, List.map_nil] <;> rfl) ?_
  rintro _ σ'' w'' ⟨rfl, e2, e3⟩
  rw [e2, e3]
  clear e2 e3 w'' σ''
  walk_nrm
  repeat (first
    | refine y_go rfl ?_
    | (refine y_region ?_; simp only [rg, Nat.reduceAdd, List.range, List.range.loop])
    | (refine y_nw rfl (by rfl) rfl (by exact nx rfl) (fun dd hS K hK => ?_); go_simp; refine hK _ _ _ ?_; clear hK K hS dd; simp only [recOf]; try walk_nrm)
    | (refine y_unwanted rfl (by rfl) ?_; try walk_nrm) | refine y_condT rfl ?_ | refine y_condF rfl ?_
    | refine y_block ?_ | refine y_label ?_ | refine y_ret ?_ | refine y_end ?_)
  refine y_callR rfl (by rfl) rfl rfl Try.func120 (by kernel_rfl) (by kernel_rfl) (i64_store ⟨b, 0, none⟩ _ u h.v (h.frozen 0) hf) (by simp only [List.map_toArray, List.map_cons, List.map_nil] <;> rfl) ?_
  rintro _ σ'' w'' ⟨rfl, e2, e3⟩
  rw [e2, e3]
  clear e2 e3 w'' σ''
  walk_nrm
  repeat (first
    | refine y_go rfl ?_
    | (refine y_region ?_; simp only [rg, Nat.reduceAdd, List.range, List.range.loop])
    | (refine y_nw rfl (by rfl) rfl (by exact nx rfl) (fun dd hS K hK => ?_); go_simp; refine hK _ _ _ ?_; clear hK K hS dd; simp only [recOf]; try walk_nrm)
    | (refine y_unwanted rfl (by rfl) ?_; try walk_nrm) | refine y_condT rfl ?_ | refine y_condF rfl ?_
    | refine y_block ?_ | refine y_label ?_ | refine y_ret ?_ | refine y_end ?_)
  refine y_callR rfl (by rfl) rfl rfl Try.func154 (by kernel_rfl) (by kernel_rfl) (wakes_none b u (h.set u) hf) (by simp only [List.map_toArray, List.map_cons, List.map_nil] <;> rfl) ?_
  rintro _ σ'' w'' ⟨rfl, e2, e3⟩
  rw [e2, e3]
  clear e2 e3 w'' σ''
  walk_nrm
  repeat (first
    | refine y_go rfl ?_
    | (refine y_region ?_; simp only [rg, Nat.reduceAdd, List.range, List.range.loop])
    | (refine y_nw rfl (by rfl) rfl (by exact nx rfl) (fun dd hS K hK => ?_); go_simp; refine hK _ _ _ ?_; clear hK K hS dd; simp only [recOf]; try walk_nrm)
    | (refine y_unwanted rfl (by rfl) ?_; try walk_nrm) | refine y_condT rfl ?_ | refine y_condF rfl ?_
    | refine y_block ?_ | refine y_label ?_ | refine y_ret ?_ | refine y_end ?_)
  refine y_leave rfl rfl Try.func62 (resultsC_none rfl _) ?_
  exact H _ _ _ ⟨rfl, rfl, rfl⟩

theorem cell_add {b : Nat} {v u : Int} {t : Value} (h : CellIs w b v) (ht : Off w t) (hf : σ.Free (· = b)) : CallsX J 61 #[.pointer (some ⟨b, 0, none⟩), t, .int .i64 u] σ w fun r σ' w' => r = .int .i64 (IntKind.i64.wrap (v + u)) ∧ σ' = σ ∧ w' = w.setCell ⟨b, 0, none⟩ (.int .i64 (IntKind.i64.wrap (v + u))) := by
  refine callsX_body Try.func61 rfl fun c cs H HN => ?_
  simp only [Try.f61, Try.ntmps61, List.size_toArray, List.length_cons, List.length_nil, Nat.reduceAdd, Nat.reduceSub, Nat.zero_add, Array.replicate_succ, Array.replicate_zero, List.push_toArray, List.append_toArray, List.nil_append, List.cons_append, List.append_nil]
  repeat (first
    | refine y_go rfl ?_
    | (refine y_region ?_; simp only [rg, Nat.reduceAdd, List.range, List.range.loop])
    | (refine y_nw rfl (by rfl) rfl (by exact nx rfl) (fun dd hS K hK => ?_); go_simp; refine hK _ _ _ ?_; clear hK K hS dd; simp only [recOf]; try walk_nrm)
    | (refine y_unwanted rfl (by rfl) ?_; try walk_nrm) | refine y_condT rfl ?_ | refine y_condF rfl ?_
    | refine y_block ?_ | refine y_label ?_ | refine y_ret ?_ | refine y_end ?_)
  refine y_callR rfl (by rfl) rfl rfl Try.func138 (by kernel_rfl) (by kernel_rfl) (cell_none_made b true h.made) (by simp only [List.map_toArray, List.map_cons, List.map_nil] <;> rfl) ?_
  rintro _ σ'' w'' ⟨rfl, e2, e3⟩
  rw [e2, e3]
  clear e2 e3 w'' σ''
  walk_nrm
  repeat (first
    | refine y_go rfl ?_
    | (refine y_region ?_; simp only [rg, Nat.reduceAdd, List.range, List.range.loop])
    | (refine y_nw rfl (by rfl) rfl (by exact nx rfl) (fun dd hS K hK => ?_); go_simp; refine hK _ _ _ ?_; clear hK K hS dd; simp only [recOf]; try walk_nrm)
    | (refine y_unwanted rfl (by rfl) ?_; try walk_nrm) | refine y_condT rfl ?_ | refine y_condF rfl ?_
    | refine y_block ?_ | refine y_label ?_ | refine y_ret ?_ | refine y_end ?_)
  refine y_callR rfl (by rfl) rfl rfl Try.func139 (by kernel_rfl) (by kernel_rfl) (live_off ht) (by simp only [List.map_toArray, List.map_cons, List.map_nil] <;> rfl) ?_
  rintro _ σ'' w'' ⟨rfl, e2, e3⟩
  rw [e2, e3]
  clear e2 e3 w'' σ''
  walk_nrm
  repeat (first
    | refine y_go rfl ?_
    | (refine y_region ?_; simp only [rg, Nat.reduceAdd, List.range, List.range.loop])
    | (refine y_nw rfl (by rfl) rfl (by exact nx rfl) (fun dd hS K hK => ?_); go_simp; refine hK _ _ _ ?_; clear hK K hS dd; simp only [recOf]; try walk_nrm)
    | (refine y_unwanted rfl (by rfl) ?_; try walk_nrm) | refine y_condT rfl ?_ | refine y_condF rfl ?_
    | refine y_block ?_ | refine y_label ?_ | refine y_ret ?_ | refine y_end ?_)
  refine y_callR rfl (by rfl) rfl rfl Try.func153 (by kernel_rfl) (by kernel_rfl) (i64_add ⟨b, 0, none⟩ v u h.v (h.frozen 0) hf) (by simp only [List.map_toArray, List.map_cons, List.map_nil] <;> rfl) ?_
  rintro _ σ'' w'' ⟨rfl, e2, e3⟩
  rw [e2, e3]
  clear e2 e3 w'' σ''
  walk_nrm
  repeat (first
    | refine y_go rfl ?_
    | (refine y_region ?_; simp only [rg, Nat.reduceAdd, List.range, List.range.loop])
    | (refine y_nw rfl (by rfl) rfl (by exact nx rfl) (fun dd hS K hK => ?_); go_simp; refine hK _ _ _ ?_; clear hK K hS dd; simp only [recOf]; try walk_nrm)
    | (refine y_unwanted rfl (by rfl) ?_; try walk_nrm) | refine y_condT rfl ?_ | refine y_condF rfl ?_
    | refine y_block ?_ | refine y_label ?_ | refine y_ret ?_ | refine y_end ?_)
  refine y_callR rfl (by rfl) rfl rfl Try.func154 (by kernel_rfl) (by kernel_rfl) (wakes_none b _ (h.set _) hf) (by simp only [List.map_toArray, List.map_cons, List.map_nil] <;> rfl) ?_
  rintro _ σ'' w'' ⟨rfl, e2, e3⟩
  rw [e2, e3]
  clear e2 e3 w'' σ''
  walk_nrm
  repeat (first
    | refine y_go rfl ?_
    | (refine y_region ?_; simp only [rg, Nat.reduceAdd, List.range, List.range.loop])
    | (refine y_nw rfl (by rfl) rfl (by exact nx rfl) (fun dd hS K hK => ?_); go_simp; refine hK _ _ _ ?_; clear hK K hS dd; simp only [recOf]; try walk_nrm)
    | (refine y_unwanted rfl (by rfl) ?_; try walk_nrm) | refine y_condT rfl ?_ | refine y_condF rfl ?_
    | refine y_block ?_ | refine y_label ?_ | refine y_ret ?_ | refine y_end ?_)
  refine y_leave rfl rfl Try.func61 (resultsC_tmp rfl _) ?_
  exact H _ _ _ ⟨rfl, rfl, rfl⟩

theorem cell_swap {b : Nat} {v u : Int} {t : Value} (h : CellIs w b v) (ht : Off w t) (hf : σ.Free (· = b)) : CallsX J 63 #[.pointer (some ⟨b, 0, none⟩), t, .int .i64 u] σ w fun r σ' w' => r = .int .i64 v ∧ σ' = σ ∧ w' = w.setCell ⟨b, 0, none⟩ (.int .i64 u) := by
  refine callsX_body Try.func63 rfl fun c cs H HN => ?_
  simp only [Try.f63, Try.ntmps63, List.size_toArray, List.length_cons, List.length_nil, Nat.reduceAdd, Nat.reduceSub, Nat.zero_add, Array.replicate_succ, Array.replicate_zero, List.push_toArray, List.append_toArray, List.nil_append, List.cons_append, List.append_nil]
  repeat (first
    | refine y_go rfl ?_
    | (refine y_region ?_; simp only [rg, Nat.reduceAdd, List.range, List.range.loop])
    | (refine y_nw rfl (by rfl) rfl (by exact nx rfl) (fun dd hS K hK => ?_); go_simp; refine hK _ _ _ ?_; clear hK K hS dd; simp only [recOf]; try walk_nrm)
    | (refine y_unwanted rfl (by rfl) ?_; try walk_nrm) | refine y_condT rfl ?_ | refine y_condF rfl ?_
    | refine y_block ?_ | refine y_label ?_ | refine y_ret ?_ | refine y_end ?_)
  refine y_callR rfl (by rfl) rfl rfl Try.func138 (by kernel_rfl) (by kernel_rfl) (cell_none_made b true h.made) (by simp only [List.map_toArray, List.map_cons, List.map_nil] <;> rfl) ?_
  rintro _ σ'' w'' ⟨rfl, e2, e3⟩
  rw [e2, e3]
  clear e2 e3 w'' σ''
  walk_nrm
  repeat (first
    | refine y_go rfl ?_
    | (refine y_region ?_; simp only [rg, Nat.reduceAdd, List.range, List.range.loop])
    | (refine y_nw rfl (by rfl) rfl (by exact nx rfl) (fun dd hS K hK => ?_); go_simp; refine hK _ _ _ ?_; clear hK K hS dd; simp only [recOf]; try walk_nrm)
    | (refine y_unwanted rfl (by rfl) ?_; try walk_nrm) | refine y_condT rfl ?_ | refine y_condF rfl ?_
    | refine y_block ?_ | refine y_label ?_ | refine y_ret ?_ | refine y_end ?_)
  refine y_callR rfl (by rfl) rfl rfl Try.func139 (by kernel_rfl) (by kernel_rfl) (live_off ht) (by simp only [List.map_toArray, List.map_cons, List.map_nil] <;> rfl) ?_
  rintro _ σ'' w'' ⟨rfl, e2, e3⟩
  rw [e2, e3]
  clear e2 e3 w'' σ''
  walk_nrm
  repeat (first
    | refine y_go rfl ?_
    | (refine y_region ?_; simp only [rg, Nat.reduceAdd, List.range, List.range.loop])
    | (refine y_nw rfl (by rfl) rfl (by exact nx rfl) (fun dd hS K hK => ?_); go_simp; refine hK _ _ _ ?_; clear hK K hS dd; simp only [recOf]; try walk_nrm)
    | (refine y_unwanted rfl (by rfl) ?_; try walk_nrm) | refine y_condT rfl ?_ | refine y_condF rfl ?_
    | refine y_block ?_ | refine y_label ?_ | refine y_ret ?_ | refine y_end ?_)
  refine y_callR rfl (by rfl) rfl rfl Try.func155 (by kernel_rfl) (by kernel_rfl) (i64_swap ⟨b, 0, none⟩ v u h.v (h.frozen 0) hf) (by simp only [List.map_toArray, List.map_cons, List.map_nil] <;> rfl) ?_
  rintro _ σ'' w'' ⟨rfl, e2, e3⟩
  rw [e2, e3]
  clear e2 e3 w'' σ''
  walk_nrm
  repeat (first
    | refine y_go rfl ?_
    | (refine y_region ?_; simp only [rg, Nat.reduceAdd, List.range, List.range.loop])
    | (refine y_nw rfl (by rfl) rfl (by exact nx rfl) (fun dd hS K hK => ?_); go_simp; refine hK _ _ _ ?_; clear hK K hS dd; simp only [recOf]; try walk_nrm)
    | (refine y_unwanted rfl (by rfl) ?_; try walk_nrm) | refine y_condT rfl ?_ | refine y_condF rfl ?_
    | refine y_block ?_ | refine y_label ?_ | refine y_ret ?_ | refine y_end ?_)
  refine y_callR rfl (by rfl) rfl rfl Try.func154 (by kernel_rfl) (by kernel_rfl) (wakes_none b _ (h.set _) hf) (by simp only [List.map_toArray, List.map_cons, List.map_nil] <;> rfl) ?_
  rintro _ σ'' w'' ⟨rfl, e2, e3⟩
  rw [e2, e3]
  clear e2 e3 w'' σ''
  walk_nrm
  repeat (first
    | refine y_go rfl ?_
    | (refine y_region ?_; simp only [rg, Nat.reduceAdd, List.range, List.range.loop])
    | (refine y_nw rfl (by rfl) rfl (by exact nx rfl) (fun dd hS K hK => ?_); go_simp; refine hK _ _ _ ?_; clear hK K hS dd; simp only [recOf]; try walk_nrm)
    | (refine y_unwanted rfl (by rfl) ?_; try walk_nrm) | refine y_condT rfl ?_ | refine y_condF rfl ?_
    | refine y_block ?_ | refine y_label ?_ | refine y_ret ?_ | refine y_end ?_)
  refine y_leave rfl rfl Try.func63 (resultsC_tmp rfl _) ?_
  exact H _ _ _ ⟨rfl, rfl, rfl⟩

theorem cell_cas {b : Nat} {v old u : Int} {t : Value} (h : CellIs w b v) (ht : Off w t) (hf : σ.Free (· = b)) : CallsX J 64 #[.pointer (some ⟨b, 0, none⟩), t, .int .i64 old, .int .i64 u] σ w fun r σ' w' => r = .bool (decide (v = old)) ∧ σ' = σ ∧ w' = if v = old then w.setCell ⟨b, 0, none⟩ (.int .i64 u) else w := by
  refine callsX_body Try.func64 rfl fun c cs H HN => ?_
  simp only [Try.f64, Try.ntmps64, List.size_toArray, List.length_cons, List.length_nil, Nat.reduceAdd, Nat.reduceSub, Nat.zero_add, Array.replicate_succ, Array.replicate_zero, List.push_toArray, List.append_toArray, List.nil_append, List.cons_append, List.append_nil]
  repeat (first
    | refine y_go rfl ?_
    | (refine y_region ?_; simp only [rg, Nat.reduceAdd, List.range, List.range.loop])
    | (refine y_nw rfl (by rfl) rfl (by exact nx rfl) (fun dd hS K hK => ?_); go_simp; refine hK _ _ _ ?_; clear hK K hS dd; simp only [recOf]; try walk_nrm)
    | (refine y_unwanted rfl (by rfl) ?_; try walk_nrm) | refine y_condT rfl ?_ | refine y_condF rfl ?_
    | refine y_block ?_ | refine y_label ?_ | refine y_ret ?_ | refine y_end ?_)
  refine y_callR rfl (by rfl) rfl rfl Try.func138 (by kernel_rfl) (by kernel_rfl) (cell_none_made b true h.made) (by simp only [List.map_toArray, List.map_cons, List.map_nil] <;> rfl) ?_
  rintro _ σ'' w'' ⟨rfl, e2, e3⟩
  rw [e2, e3]
  clear e2 e3 w'' σ''
  walk_nrm
  repeat (first
    | refine y_go rfl ?_
    | (refine y_region ?_; simp only [rg, Nat.reduceAdd, List.range, List.range.loop])
    | (refine y_nw rfl (by rfl) rfl (by exact nx rfl) (fun dd hS K hK => ?_); go_simp; refine hK _ _ _ ?_; clear hK K hS dd; simp only [recOf]; try walk_nrm)
    | (refine y_unwanted rfl (by rfl) ?_; try walk_nrm) | refine y_condT rfl ?_ | refine y_condF rfl ?_
    | refine y_block ?_ | refine y_label ?_ | refine y_ret ?_ | refine y_end ?_)
  refine y_callR rfl (by rfl) rfl rfl Try.func139 (by kernel_rfl) (by kernel_rfl) (live_off ht) (by simp only [List.map_toArray, List.map_cons, List.map_nil] <;> rfl) ?_
  rintro _ σ'' w'' ⟨rfl, e2, e3⟩
  rw [e2, e3]
  clear e2 e3 w'' σ''
  walk_nrm
  repeat (first
    | refine y_go rfl ?_
    | (refine y_region ?_; simp only [rg, Nat.reduceAdd, List.range, List.range.loop])
    | (refine y_nw rfl (by rfl) rfl (by exact nx rfl) (fun dd hS K hK => ?_); go_simp; refine hK _ _ _ ?_; clear hK K hS dd; simp only [recOf]; try walk_nrm)
    | (refine y_unwanted rfl (by rfl) ?_; try walk_nrm) | refine y_condT rfl ?_ | refine y_condF rfl ?_
    | refine y_block ?_ | refine y_label ?_ | refine y_ret ?_ | refine y_end ?_)
  refine y_callR rfl (by rfl) rfl rfl Try.func156 (by kernel_rfl) (by kernel_rfl) (i64_cas ⟨b, 0, none⟩ v old u h.v (h.frozen 0) hf) (by simp only [List.map_toArray, List.map_cons, List.map_nil] <;> rfl) ?_
  rintro _ _ _ ⟨rfl, rfl, rfl⟩
  walk_nrm
  by_cases e : v = old
  · simp only [e, decide_true, if_true]
    repeat (first
      | refine y_go rfl ?_
      | (refine y_region ?_; simp only [rg, Nat.reduceAdd, List.range, List.range.loop])
      | (refine y_nw rfl (by rfl) rfl (by exact nx rfl) (fun dd hS K hK => ?_); go_simp; refine hK _ _ _ ?_; clear hK K hS dd; simp only [recOf]; try walk_nrm)
      | (refine y_unwanted rfl (by rfl) ?_; try walk_nrm) | refine y_condT rfl ?_ | refine y_condF rfl ?_
      | refine y_block ?_ | refine y_label ?_ | refine y_ret ?_ | refine y_end ?_)
    refine y_callR rfl (by rfl) rfl rfl Try.func154 (by kernel_rfl) (by kernel_rfl) (wakes_none b _ (h.set _) hf) (by simp only [List.map_toArray, List.map_cons, List.map_nil] <;> rfl) ?_
    rintro _ σ'' w'' ⟨rfl, e2, e3⟩
    rw [e2, e3]
    clear e2 e3 w'' σ''
    walk_nrm
    repeat (first
      | refine y_go rfl ?_
      | (refine y_region ?_; simp only [rg, Nat.reduceAdd, List.range, List.range.loop])
      | (refine y_nw rfl (by rfl) rfl (by exact nx rfl) (fun dd hS K hK => ?_); go_simp; refine hK _ _ _ ?_; clear hK K hS dd; simp only [recOf]; try walk_nrm)
      | (refine y_unwanted rfl (by rfl) ?_; try walk_nrm) | refine y_condT rfl ?_ | refine y_condF rfl ?_
      | refine y_block ?_ | refine y_label ?_ | refine y_ret ?_ | refine y_end ?_)
    refine y_leave rfl rfl Try.func64 (resultsC_tmp rfl _) ?_
    exact H _ _ _ ⟨by simp [e], rfl, by simp [e]⟩
  · simp only [e, decide_false, if_false]
    repeat (first
      | refine y_go rfl ?_
      | (refine y_region ?_; simp only [rg, Nat.reduceAdd, List.range, List.range.loop])
      | (refine y_nw rfl (by rfl) rfl (by exact nx rfl) (fun dd hS K hK => ?_); go_simp; refine hK _ _ _ ?_; clear hK K hS dd; simp only [recOf]; try walk_nrm)
      | (refine y_unwanted rfl (by rfl) ?_; try walk_nrm) | refine y_condT rfl ?_ | refine y_condF rfl ?_
      | refine y_block ?_ | refine y_label ?_ | refine y_ret ?_ | refine y_end ?_)
    refine y_leave rfl rfl Try.func64 (resultsC_tmp rfl _) ?_
    exact H _ _ _ ⟨by simp [e], rfl, by simp [e]⟩

end Go.Proofs.Ytcibnfjpagmdaaa
