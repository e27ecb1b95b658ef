/- Latches, locks, barriers under any hand. -/
import Derived.Test.YtcibnfjpagmdaaaAlone
import Derived.Test.YtcibnfjpagmdaaaDrawN
set_option linter.unusedSimpArgs false
set_option linter.unusedVariables false
set_option maxRecDepth 100000
set_option maxHeartbeats 4000000
namespace Go.Proofs.Ytcibnfjpagmdaaa
open Go.TX Go.Conc Go.RowKit Go.MapKept

/-- A place of the code that is come to again and again: an invariant with a measure. -/
theorem y_again {P : Program} {J : Judge P} {σ : Cfg} {w : World} {b : Frame} {a : Act} {k : List Item} {cs : List Frame} (I : Nat → Act → Cfg → World → Prop) (n : Nat) (h0 : I n a σ w)
    (round : ∀ n, (∀ m a' σ' w', m < n → I m a' σ' w' → J.Y σ' (G (b.at a' k) cs) w') → ∀ a σ w, I n a σ w → J.Y σ (G (b.at a k) cs) w) : J.Y σ (G (b.at a k) cs) w := by
  have key : ∀ n a σ w, I n a σ w → J.Y σ (G (b.at a k) cs) w := by
    intro n
    induction n using Nat.strongRecOn with
    | _ n ih => exact fun a σ w h => round n (fun m a' σ' w' hm h' => ih m hm a' σ' w' h') a σ w h
  exact key n a σ w h0

/-! ### the machines -/
def okV : Value := .int .i64 0
inductive DownK where
  | s0
  | got (x : Int)
  | ok
def downM (c : Nat) (k : Int) : Mach Value where
  K := DownK
  obs := fun s => match s with
    | .s0 => .inl ⟨1, c, 0, 0⟩
    | .got x => if x < k then .inr (.int .i64 1) else .inl ⟨3, c, x, IntKind.i64.wrap (x - k)⟩
    | .ok => .inr okV
  nxt := fun s was => match s with
    | .s0 => .got was
    | .got x => if was = x then .ok else .s0
    | .ok => .ok
inductive WaitK where
  | s0
  | got (x : Int)
def waitM (c : Nat) : Mach Value where
  K := WaitK
  obs := fun s => match s with
    | .s0 => .inl ⟨1, c, 0, 0⟩
    | .got x => if x = 0 then .inr okV else .inl ⟨6, c, x, 0⟩
  nxt := fun s was => match s with
    | .s0 => .got was
    | .got _ => .s0
inductive OneK where
  | s0
  | got (x : Int)
def leftM (c : Nat) : Mach Value where
  K := OneK
  obs := fun s => match s with
    | .s0 => .inl ⟨1, c, 0, 0⟩
    | .got x => .inr (.int .i64 x)
  nxt := fun _ was => .got was
def tryM (c : Nat) : Mach Value where
  K := OneK
  obs := fun s => match s with
    | .s0 => .inl ⟨3, c, 0, 1⟩
    | .got x => .inr (.bool (decide (x = 0)))
  nxt := fun _ was => .got was
def unlockM (c : Nat) : Mach Value where
  K := OneK
  obs := fun s => match s with
    | .s0 => .inl ⟨5, c, 0, 0⟩
    | .got x => .inr (.int .i64 (if x = 0 then 11 else 0))
  nxt := fun _ was => .got was
inductive LockK where
  | s0
  | sw
  | pk
  | ok
def lockM (c : Nat) : Mach Value where
  K := LockK
  obs := fun s => match s with
    | .s0 => .inl ⟨3, c, 0, 1⟩
    | .sw => .inl ⟨5, c, 2, 0⟩
    | .pk => .inl ⟨6, c, 2, 0⟩
    | .ok => .inr okV
  nxt := fun s was => match s with
    | .s0 => if was = 0 then .ok else .sw
    | .sw => if was = 0 then .ok else .pk
    | .pk => .sw
    | .ok => .ok
inductive ArrK where
  | s0
  | add (r : Int)
  | pk (r : Int)
  | st (r : Int)
  | up (r : Int)
  | ok (r : Int) (last : Bool)
/-- r: the round's cell, c: the count's; for n threads. -/
def arrM (rd c : Nat) (n : Int) : Mach Value where
  K := ArrK
  obs := fun s => match s with
    | .s0 => .inl ⟨1, rd, 0, 0⟩
    | .add _ => .inl ⟨4, c, 1, 0⟩
    | .pk r => .inl ⟨6, rd, r, 0⟩
    | .st _ => .inl ⟨2, c, 0, 0⟩
    | .up _ => .inl ⟨4, rd, 1, 0⟩
    | .ok r last => .inr (.tuple #[.int .i64 r, .bool last, okV])
  nxt := fun s was => match s with
    | .s0 => .add was
    | .add r => if IntKind.i64.wrap (was + 1) = n then .st r else .pk r
    | .pk r => .ok r false
    | .st r => .up r
    | .up r => .ok r true
    | .ok r l => .ok r l

section
variable {J : Judge Try.prog} {σ : Cfg} {w : World} {t : Value} {Hd : Hand J t} {Q : Value → Cfg → World → Prop} {n l cc rd : Nat} {k N : Int}

/-- A struct of one pointer to a cell. -/
def One (l cc : Nat) (_ : Cfg) (w : World) : Prop := w.cell? ⟨l, 0, none⟩ = some (.pointer (some ⟨cc, 0, none⟩))
def Barr (l rd cc : Nat) (N : Int) (_ : Cfg) (w : World) : Prop := w.cell? ⟨l, 0, none⟩ = some (.int .i64 N) ∧ w.cell? ⟨l, 1, none⟩ = some (.pointer (some ⟨rd, 0, none⟩)) ∧ w.cell? ⟨l, 2, none⟩ = some (.pointer (some ⟨cc, 0, none⟩))

theorem left_calls (h : Acts Hd (leftM cc) (One l cc) Q n .s0 σ w) : CallsX J 94 #[.pointer (some ⟨l, 0, none⟩), t] σ w Q Hd.N := by
  have L0 := h.lay
  obtain ⟨n1, _, hA⟩ := h.acc (a := ⟨1, cc, 0, 0⟩) rfl
  unfold One at L0
  refine callsX_body Try.func94 rfl fun c cs H HN => ?_
  simp only [Try.f94, Try.ntmps94, List.size_toArray, List.length_cons, List.length_nil, Nat.reduceAdd, Nat.reduceSub, Nat.zero_add, Array.replicate_succ, Array.replicate_zero, List.push_toArray, List.append_toArray, List.nil_append, List.cons_append, List.append_nil]
  replace H := Keep.mk H
  replace HN := Keep.mk HN
  replace hA := Keep.mk hA
  repeat (first
    | refine y_go rfl ?_
    | (refine y_region ?_; simp only [rg, Nat.reduceAdd, List.range, List.range.loop])
    | (refine y_nw rfl (by rfl) rfl (by exact nx rfl) (fun dd hS K hK => ?_); go_simp; refine hK _ _ _ ?_; clear hK K hS dd; simp only [recOf]; try walk_nrm)
    | (refine y_unwanted rfl (by rfl) ?_; try walk_nrm) | refine y_condT rfl ?_ | refine y_condF rfl ?_
    | refine y_block ?_ | refine y_label ?_ | refine y_ret ?_ | refine y_end ?_)
  refine y_callP rfl (by rfl) rfl rfl Try.func41 (by kernel_rfl) (by kernel_rfl) (Hd.load hA.out) (by simp only [List.map_toArray, List.map_cons, List.map_nil] <;> rfl) rfl rfl Try.func94 HN.out ?_
  rintro v σ' w' ⟨was, rfl, hA'⟩
  have hq := hA'.done (r := .int .i64 was) rfl
  replace hq := Keep.mk hq
  replace hA' := Keep.mk hA'
  walk_nrm
  repeat (first
    | refine y_go rfl ?_
    | (refine y_region ?_; simp only [rg, Nat.reduceAdd, List.range, List.range.loop])
    | (refine y_nw rfl (by rfl) rfl (by exact nx rfl) (fun dd hS K hK => ?_); go_simp; refine hK _ _ _ ?_; clear hK K hS dd; simp only [recOf]; try walk_nrm)
    | (refine y_unwanted rfl (by rfl) ?_; try walk_nrm) | refine y_condT rfl ?_ | refine y_condF rfl ?_
    | refine y_block ?_ | refine y_label ?_ | refine y_ret ?_ | refine y_end ?_)
  refine y_leave rfl rfl Try.func94 (resultsC_tmp rfl _) ?_
  exact H.out _ _ _ hq.out

theorem try_calls (h : Acts Hd (tryM cc) (One l cc) Q n .s0 σ w) : CallsX J 83 #[.pointer (some ⟨l, 0, none⟩), t] σ w Q Hd.N := by
  have L0 := h.lay
  obtain ⟨n1, _, hA⟩ := h.acc (a := ⟨3, cc, 0, 1⟩) rfl
  unfold One at L0
  refine callsX_body Try.func83 rfl fun c cs H HN => ?_
  simp only [Try.f83, Try.ntmps83, List.size_toArray, List.length_cons, List.length_nil, Nat.reduceAdd, Nat.reduceSub, Nat.zero_add, Array.replicate_succ, Array.replicate_zero, List.push_toArray, List.append_toArray, List.nil_append, List.cons_append, List.append_nil]
  replace H := Keep.mk H
  replace HN := Keep.mk HN
  replace hA := Keep.mk hA
  repeat (first
    | refine y_go rfl ?_
    | (refine y_region ?_; simp only [rg, Nat.reduceAdd, List.range, List.range.loop])
    | (refine y_nw rfl (by rfl) rfl (by exact nx rfl) (fun dd hS K hK => ?_); go_simp; refine hK _ _ _ ?_; clear hK K hS dd; simp only [recOf]; try walk_nrm)
    | (refine y_unwanted rfl (by rfl) ?_; try walk_nrm) | refine y_condT rfl ?_ | refine y_condF rfl ?_
    | refine y_block ?_ | refine y_label ?_ | refine y_ret ?_ | refine y_end ?_)
  refine y_callP rfl (by rfl) rfl rfl Try.func64 (by kernel_rfl) (by kernel_rfl) (Hd.cas hA.out) (by simp only [List.map_toArray, List.map_cons, List.map_nil] <;> rfl) rfl rfl Try.func83 HN.out ?_
  rintro v σ' w' ⟨was, rfl, hA'⟩
  have hq := hA'.done (r := .bool (decide (was = 0))) rfl
  replace hq := Keep.mk hq
  replace hA' := Keep.mk hA'
  walk_nrm
  repeat (first
    | refine y_go rfl ?_
    | (refine y_region ?_; simp only [rg, Nat.reduceAdd, List.range, List.range.loop])
    | (refine y_nw rfl (by rfl) rfl (by exact nx rfl) (fun dd hS K hK => ?_); go_simp; refine hK _ _ _ ?_; clear hK K hS dd; simp only [recOf]; try walk_nrm)
    | (refine y_unwanted rfl (by rfl) ?_; try walk_nrm) | refine y_condT rfl ?_ | refine y_condF rfl ?_
    | refine y_block ?_ | refine y_label ?_ | refine y_ret ?_ | refine y_end ?_)
  refine y_leave rfl rfl Try.func83 (resultsC_tmp rfl _) ?_
  exact H.out _ _ _ hq.out

theorem unlock_calls (h : Acts Hd (unlockM cc) (One l cc) Q n .s0 σ w) : CallsX J 85 #[.pointer (some ⟨l, 0, none⟩), t] σ w Q Hd.N := by
  have L0 := h.lay
  obtain ⟨n1, _, hA⟩ := h.acc (a := ⟨5, cc, 0, 0⟩) rfl
  unfold One at L0
  refine callsX_body Try.func85 rfl fun c cs H HN => ?_
  simp only [Try.f85, Try.ntmps85, List.size_toArray, List.length_cons, List.length_nil, Nat.reduceAdd, Nat.reduceSub, Nat.zero_add, Array.replicate_succ, Array.replicate_zero, List.push_toArray, List.append_toArray, List.nil_append, List.cons_append, List.append_nil]
  replace H := Keep.mk H
  replace HN := Keep.mk HN
  replace hA := Keep.mk hA
  repeat (first
    | refine y_go rfl ?_
    | (refine y_region ?_; simp only [rg, Nat.reduceAdd, List.range, List.range.loop])
    | (refine y_nw rfl (by rfl) rfl (by exact nx rfl) (fun dd hS K hK => ?_); go_simp; refine hK _ _ _ ?_; clear hK K hS dd; simp only [recOf]; try walk_nrm)
    | (refine y_unwanted rfl (by rfl) ?_; try walk_nrm) | refine y_condT rfl ?_ | refine y_condF rfl ?_
    | refine y_block ?_ | refine y_label ?_ | refine y_ret ?_ | refine y_end ?_)
  refine y_callP rfl (by rfl) rfl rfl Try.func63 (by kernel_rfl) (by kernel_rfl) (Hd.swap hA.out) (by simp only [List.map_toArray, List.map_cons, List.map_nil] <;> rfl) rfl rfl Try.func85 HN.out ?_
  rintro v σ' w' ⟨was, rfl, hA'⟩
  have hq := hA'.done (r := .int .i64 (if was = 0 then 11 else 0)) rfl
  by_cases e : was = 0
  · have e1 : (was == 0) = true := by simp [e]
    rw [if_pos e] at hq
    clear e
    replace hq := Keep.mk hq
    replace hA' := Keep.mk hA'
    walk_nrm
    repeat (first
      | refine y_go rfl ?_
      | (refine y_region ?_; simp only [rg, Nat.reduceAdd, List.range, List.range.loop])
      | (refine y_nw rfl (by rfl) rfl (by exact nx rfl) (fun dd hS K hK => ?_); go_simp; refine hK _ _ _ ?_; clear hK K hS dd; simp only [recOf]; try walk_nrm)
      | (refine y_unwanted rfl (by rfl) ?_; try walk_nrm) | refine y_condT rfl ?_ | refine y_condF rfl ?_
      | refine y_block ?_ | refine y_label ?_ | refine y_ret ?_ | refine y_end ?_)
    refine y_leave rfl rfl Try.func85 (resultsC_tmp rfl _) ?_
    exact H.out _ _ _ hq.out
  · have e1 : (was == 0) = false := by simp [e]
    rw [if_neg e] at hq
    clear e
    replace hq := Keep.mk hq
    replace hA' := Keep.mk hA'
    walk_nrm
    repeat (first
      | refine y_go rfl ?_
      | (refine y_region ?_; simp only [rg, Nat.reduceAdd, List.range, List.range.loop])
      | (refine y_nw rfl (by rfl) rfl (by exact nx rfl) (fun dd hS K hK => ?_); go_simp; refine hK _ _ _ ?_; clear hK K hS dd; simp only [recOf]; try walk_nrm)
      | (refine y_unwanted rfl (by rfl) ?_; try walk_nrm) | refine y_condT rfl ?_ | refine y_condF rfl ?_
      | refine y_block ?_ | refine y_label ?_ | refine y_ret ?_ | refine y_end ?_)
    refine y_leave rfl rfl Try.func85 (resultsC_tmp rfl _) ?_
    exact H.out _ _ _ hq.out

theorem down_calls (h : Acts Hd (downM cc k) (One l cc) Q n .s0 σ w) (hk : 1 ≤ k) : CallsX J 91 #[.pointer (some ⟨l, 0, none⟩), t, .int .i64 k] σ w Q Hd.N := by
  have L0 := h.lay
  unfold One at L0
  refine callsX_body Try.func91 rfl fun c cs H HN => ?_
  simp only [Try.f91, Try.ntmps91, List.size_toArray, List.length_cons, List.length_nil, Nat.reduceAdd, Nat.reduceSub, Nat.zero_add, Array.replicate_succ, Array.replicate_zero, List.push_toArray, List.append_toArray, List.nil_append, List.cons_append, List.append_nil]
  have e0 : ¬ k < 1 := by omega
  replace H := Keep.mk H
  replace HN := Keep.mk HN
  replace h := Keep.mk h
  repeat (first
    | refine y_go rfl ?_
    | (refine y_region ?_; simp only [rg, Nat.reduceAdd, List.range, List.range.loop])
    | (refine y_nw rfl (by rfl) rfl (by exact nx rfl) (fun dd hS K hK => ?_); go_simp; refine hK _ _ _ ?_; clear hK K hS dd; simp only [recOf]; try walk_nrm)
    | (refine y_unwanted rfl (by rfl) ?_; try walk_nrm) | refine y_condT rfl ?_ | refine y_condF rfl ?_
    | refine y_block ?_ | refine y_ret ?_ | refine y_end ?_)
  refine y_label ?_
  refine y_again (fun m a σ' w' => Acts Hd (downM cc k) (One l cc) Q m .s0 σ' w' ∧ Tm a 39 [(0, .pointer (some ⟨l, 0, none⟩)), (1, t), (2, .int .i64 k)]) n ⟨h.out, ⟨rfl, rfl, rfl, rfl, rfl, trivial⟩⟩ ?_
  clear h
  rintro m IH a σ w1 ⟨h, hT⟩
  obtain ⟨j, rfl, h0', h1', h2', -⟩ := Tm.lit hT
  simp only at h0' h1' h2'
  simp only [List.range, List.range.loop, List.map_cons, List.map_nil, h0', h1', h2']
  clear h0' h1' h2' hT
  have L1 := h.lay
  unfold One at L1
  obtain ⟨n1, hn1, hA⟩ := h.acc (a := ⟨1, cc, 0, 0⟩) rfl
  replace IH := Keep.mk IH
  replace hA := Keep.mk hA
  replace h := Keep.mk h
  replace hn1 := Keep.mk hn1
  repeat (first
    | refine y_go rfl ?_
    | (refine y_region ?_; simp only [rg, Nat.reduceAdd, List.range, List.range.loop])
    | (refine y_nw rfl (by rfl) rfl (by exact nx rfl) (fun dd hS K hK => ?_); go_simp; refine hK _ _ _ ?_; clear hK K hS dd; simp only [recOf]; try walk_nrm)
    | (refine y_unwanted rfl (by rfl) ?_; try walk_nrm) | refine y_condT rfl ?_ | refine y_condF rfl ?_
    | refine y_block ?_ | refine y_label ?_ | refine y_ret ?_ | refine y_end ?_)
  refine y_callP rfl (by rfl) rfl rfl Try.func41 (by kernel_rfl) (by kernel_rfl) (Hd.load hA.out) (by simp only [List.map_toArray, List.map_cons, List.map_nil] <;> rfl) rfl rfl Try.func91 HN.out ?_
  rintro v σ' w' ⟨x, rfl, hB⟩
  have hB' : Acts Hd (downM cc k) (One l cc) Q n1 (.got x) σ' w' := hB
  have L2 := hB'.lay
  unfold One at L2
  by_cases e : x < k
  · have hq := hB'.done (r := .int .i64 1) (by simp [downM, e])
    clear hB hB'
    replace hq := Keep.mk hq
    walk_nrm
    repeat (first
      | refine y_go rfl ?_
      | (refine y_region ?_; simp only [rg, Nat.reduceAdd, List.range, List.range.loop])
      | (refine y_nw rfl (by rfl) rfl (by exact nx rfl) (fun dd hS K hK => ?_); go_simp; refine hK _ _ _ ?_; clear hK K hS dd; simp only [recOf]; try walk_nrm)
      | (refine y_unwanted rfl (by rfl) ?_; try walk_nrm) | refine y_condT rfl ?_ | refine y_condF rfl ?_
      | refine y_block ?_ | refine y_label ?_ | refine y_ret ?_ | refine y_end ?_)
    refine y_leave rfl rfl Try.func91 (resultsC_tmp rfl _) ?_
    exact H.out _ _ _ hq.out
  · obtain ⟨n2, hn2, hC⟩ := hB'.acc (a := ⟨3, cc, x, IntKind.i64.wrap (x - k)⟩) (by simp [downM, e])
    clear hB hB'
    replace hC := Keep.mk hC
    replace hn2 := Keep.mk hn2
    walk_nrm
    repeat (first
      | refine y_go rfl ?_
      | (refine y_region ?_; simp only [rg, Nat.reduceAdd, List.range, List.range.loop])
      | (refine y_nw rfl (by rfl) rfl (by exact nx rfl) (fun dd hS K hK => ?_); go_simp; refine hK _ _ _ ?_; clear hK K hS dd; simp only [recOf]; try walk_nrm)
      | (refine y_unwanted rfl (by rfl) ?_; try walk_nrm) | refine y_condT rfl ?_ | refine y_condF rfl ?_
      | refine y_block ?_ | refine y_label ?_ | refine y_ret ?_ | refine y_end ?_)
    refine y_callP rfl (by rfl) rfl rfl Try.func64 (by kernel_rfl) (by kernel_rfl) (Hd.cas hC.out) (by simp only [List.map_toArray, List.map_cons, List.map_nil] <;> rfl) rfl rfl Try.func91 HN.out ?_
    rintro v σ2 w2 ⟨y, rfl, hD⟩
    by_cases e2 : y = x
    · have hD' : Acts Hd (downM cc k) (One l cc) Q n2 .ok σ2 w2 := by
        have h := hD
        simp only [downM, e2, if_true] at h
        exact h
      have hq := hD'.done (r := okV) rfl
      have e3 : decide (y = x) = true := by simp [e2]
      rw [e3]
      clear hD hD' e3 e2
      replace hq := Keep.mk hq
      walk_nrm
      repeat (first
        | refine y_go rfl ?_
        | (refine y_region ?_; simp only [rg, Nat.reduceAdd, List.range, List.range.loop])
        | (refine y_nw rfl (by rfl) rfl (by exact nx rfl) (fun dd hS K hK => ?_); go_simp; refine hK _ _ _ ?_; clear hK K hS dd; simp only [recOf]; try walk_nrm)
        | (refine y_unwanted rfl (by rfl) ?_; try walk_nrm) | refine y_condT rfl ?_ | refine y_condF rfl ?_
        | refine y_block ?_ | refine y_label ?_ | refine y_ret ?_ | refine y_end ?_)
      refine y_leave rfl rfl Try.func91 (resultsC_tmp rfl _) ?_
      exact H.out _ _ _ hq.out
    · have hD' : Acts Hd (downM cc k) (One l cc) Q n2 .s0 σ2 w2 := by
        have h := hD
        simp only [downM, e2, if_false] at h
        exact h
      have e3 : decide (y = x) = false := by simp [e2]
      rw [e3]
      clear hD e3 e2
      replace hD' := Keep.mk hD'
      walk_nrm
      repeat (first
        | refine y_go rfl ?_
        | (refine y_region ?_; simp only [rg, Nat.reduceAdd, List.range, List.range.loop])
        | (refine y_nw rfl (by rfl) rfl (by exact nx rfl) (fun dd hS K hK => ?_); go_simp; refine hK _ _ _ ?_; clear hK K hS dd; simp only [recOf]; try walk_nrm)
        | (refine y_unwanted rfl (by rfl) ?_; try walk_nrm) | refine y_condT rfl ?_ | refine y_condF rfl ?_
        | refine y_block ?_ | refine y_label ?_ | refine y_ret ?_ | refine y_end ?_)
      refine y_goto rfl (y_seq (y_skip ?_))
      have := hn1.out
      have := hn2.out
      exact IH.out n2 _ _ _ (by omega) ⟨hD'.out, ⟨rfl, rfl, rfl, rfl, rfl, trivial⟩⟩

theorem wait_calls (h : Acts Hd (waitM cc) (One l cc) Q n .s0 σ w) : CallsX J 93 #[.pointer (some ⟨l, 0, none⟩), t] σ w Q Hd.N := by
  have L0 := h.lay
  unfold One at L0
  refine callsX_body Try.func93 rfl fun c cs H HN => ?_
  simp only [Try.f93, Try.ntmps93, List.size_toArray, List.length_cons, List.length_nil, Nat.reduceAdd, Nat.reduceSub, Nat.zero_add, Array.replicate_succ, Array.replicate_zero, List.push_toArray, List.append_toArray, List.nil_append, List.cons_append, List.append_nil]
  replace H := Keep.mk H
  replace HN := Keep.mk HN
  replace h := Keep.mk h
  repeat (first
    | refine y_go rfl ?_
    | (refine y_region ?_; simp only [rg, Nat.reduceAdd, List.range, List.range.loop])
    | (refine y_nw rfl (by rfl) rfl (by exact nx rfl) (fun dd hS K hK => ?_); go_simp; refine hK _ _ _ ?_; clear hK K hS dd; simp only [recOf]; try walk_nrm)
    | (refine y_unwanted rfl (by rfl) ?_; try walk_nrm) | refine y_condT rfl ?_ | refine y_condF rfl ?_
    | refine y_block ?_ | refine y_ret ?_ | refine y_end ?_)
  refine y_label ?_
  refine y_again (fun m a σ' w' => Acts Hd (waitM cc) (One l cc) Q m .s0 σ' w' ∧ Tm a 30 [(0, .pointer (some ⟨l, 0, none⟩)), (1, t)]) n ⟨h.out, ⟨rfl, rfl, rfl, rfl, trivial⟩⟩ ?_
  clear h
  rintro m IH a σ w1 ⟨h, hT⟩
  obtain ⟨j, rfl, h0', h1', -⟩ := Tm.lit hT
  simp only at h0' h1'
  simp only [List.range, List.range.loop, List.map_cons, List.map_nil, h0', h1']
  clear h0' h1' hT
  have L1 := h.lay
  unfold One at L1
  obtain ⟨n1, hn1, hA⟩ := h.acc (a := ⟨1, cc, 0, 0⟩) rfl
  replace IH := Keep.mk IH
  replace hA := Keep.mk hA
  replace h := Keep.mk h
  replace hn1 := Keep.mk hn1
  repeat (first
    | refine y_go rfl ?_
    | (refine y_region ?_; simp only [rg, Nat.reduceAdd, List.range, List.range.loop])
    | (refine y_nw rfl (by rfl) rfl (by exact nx rfl) (fun dd hS K hK => ?_); go_simp; refine hK _ _ _ ?_; clear hK K hS dd; simp only [recOf]; try walk_nrm)
    | (refine y_unwanted rfl (by rfl) ?_; try walk_nrm) | refine y_condT rfl ?_ | refine y_condF rfl ?_
    | refine y_block ?_ | refine y_label ?_ | refine y_ret ?_ | refine y_end ?_)
  refine y_callP rfl (by rfl) rfl rfl Try.func41 (by kernel_rfl) (by kernel_rfl) (Hd.load hA.out) (by simp only [List.map_toArray, List.map_cons, List.map_nil] <;> rfl) rfl rfl Try.func93 HN.out ?_
  rintro v σ' w' ⟨x, rfl, hB⟩
  have hB' : Acts Hd (waitM cc) (One l cc) Q n1 (.got x) σ' w' := hB
  have L2 := hB'.lay
  unfold One at L2
  by_cases e : x = 0
  · have hq := hB'.done (r := okV) (by simp [waitM, e])
    have e1 : (x != 0) = false := by simp [e]
    clear hB hB' e
    replace hq := Keep.mk hq
    walk_nrm
    repeat (first
      | refine y_go rfl ?_
      | (refine y_region ?_; simp only [rg, Nat.reduceAdd, List.range, List.range.loop])
      | (refine y_nw rfl (by rfl) rfl (by exact nx rfl) (fun dd hS K hK => ?_); go_simp; refine hK _ _ _ ?_; clear hK K hS dd; simp only [recOf]; try walk_nrm)
      | (refine y_unwanted rfl (by rfl) ?_; try walk_nrm) | refine y_condT rfl ?_ | refine y_condF rfl ?_
      | refine y_block ?_ | refine y_label ?_ | refine y_ret ?_ | refine y_end ?_)
    refine y_leave rfl rfl Try.func93 (resultsC_tmp rfl _) ?_
    exact H.out _ _ _ hq.out
  · obtain ⟨n2, hn2, hC⟩ := hB'.acc (a := ⟨6, cc, x, 0⟩) (by simp [waitM, e])
    have e1 : (x != 0) = true := by simp [e]
    clear hB hB' e
    replace hC := Keep.mk hC
    replace hn2 := Keep.mk hn2
    walk_nrm
    repeat (first
      | refine y_go rfl ?_
      | (refine y_region ?_; simp only [rg, Nat.reduceAdd, List.range, List.range.loop])
      | (refine y_nw rfl (by rfl) rfl (by exact nx rfl) (fun dd hS K hK => ?_); go_simp; refine hK _ _ _ ?_; clear hK K hS dd; simp only [recOf]; try walk_nrm)
      | (refine y_unwanted rfl (by rfl) ?_; try walk_nrm) | refine y_condT rfl ?_ | refine y_condF rfl ?_
      | refine y_block ?_ | refine y_label ?_ | refine y_ret ?_ | refine y_end ?_)
    refine y_callP rfl (by rfl) rfl rfl Try.func60 (by kernel_rfl) (by kernel_rfl) (Hd.park hC.out) (by simp only [List.map_toArray, List.map_cons, List.map_nil] <;> rfl) rfl rfl Try.func93 HN.out ?_
    rintro v σ2 w2 ⟨y, rfl, hD⟩
    have hD' : Acts Hd (waitM cc) (One l cc) Q n2 .s0 σ2 w2 := hD
    clear hD
    replace hD' := Keep.mk hD'
    walk_nrm
    repeat (first
      | refine y_go rfl ?_
      | (refine y_region ?_; simp only [rg, Nat.reduceAdd, List.range, List.range.loop])
      | (refine y_nw rfl (by rfl) rfl (by exact nx rfl) (fun dd hS K hK => ?_); go_simp; refine hK _ _ _ ?_; clear hK K hS dd; simp only [recOf]; try walk_nrm)
      | (refine y_unwanted rfl (by rfl) ?_; try walk_nrm) | refine y_condT rfl ?_ | refine y_condF rfl ?_
      | refine y_block ?_ | refine y_label ?_ | refine y_ret ?_ | refine y_end ?_)
    refine y_goto rfl (y_seq (y_skip ?_))
    have := hn1.out
    have := hn2.out
    exact IH.out n2 _ _ _ (by omega) ⟨hD'.out, ⟨rfl, rfl, rfl, rfl, trivial⟩⟩

theorem lock_calls (h : Acts Hd (lockM cc) (One l cc) Q n .s0 σ w) : CallsX J 84 #[.pointer (some ⟨l, 0, none⟩), t] σ w Q Hd.N := by
  have L0 := h.lay
  unfold One at L0
  obtain ⟨n0, hn0, h0⟩ := h.acc (a := ⟨3, cc, 0, 1⟩) rfl
  refine callsX_body Try.func84 rfl fun c cs H HN => ?_
  simp only [Try.f84, Try.ntmps84, List.size_toArray, List.length_cons, List.length_nil, Nat.reduceAdd, Nat.reduceSub, Nat.zero_add, Array.replicate_succ, Array.replicate_zero, List.push_toArray, List.append_toArray, List.nil_append, List.cons_append, List.append_nil]
  replace H := Keep.mk H
  replace HN := Keep.mk HN
  replace h := Keep.mk h
  replace h0 := Keep.mk h0
  repeat (first
    | refine y_go rfl ?_
    | (refine y_region ?_; simp only [rg, Nat.reduceAdd, List.range, List.range.loop])
    | (refine y_nw rfl (by rfl) rfl (by exact nx rfl) (fun dd hS K hK => ?_); go_simp; refine hK _ _ _ ?_; clear hK K hS dd; simp only [recOf]; try walk_nrm)
    | (refine y_unwanted rfl (by rfl) ?_; try walk_nrm) | refine y_condT rfl ?_ | refine y_condF rfl ?_
    | refine y_block ?_ | refine y_ret ?_ | refine y_end ?_)
  refine y_callP rfl (by rfl) rfl rfl Try.func64 (by kernel_rfl) (by kernel_rfl) (Hd.cas h0.out) (by simp only [List.map_toArray, List.map_cons, List.map_nil] <;> rfl) rfl rfl Try.func84 HN.out ?_
  rintro v σ0 w0 ⟨y0, rfl, hE⟩
  by_cases e0 : y0 = 0
  · have hE' : Acts Hd (lockM cc) (One l cc) Q n0 .ok σ0 w0 := by
      have h := hE
      simp only [lockM, e0, if_true] at h
      exact h
    have hq := hE'.done (r := okV) rfl
    have e3 : decide (y0 = 0) = true := by simp [e0]
    rw [e3]
    clear hE hE' e0 e3
    replace hq := Keep.mk hq
    walk_nrm
    repeat (first
      | refine y_go rfl ?_
      | (refine y_region ?_; simp only [rg, Nat.reduceAdd, List.range, List.range.loop])
      | (refine y_nw rfl (by rfl) rfl (by exact nx rfl) (fun dd hS K hK => ?_); go_simp; refine hK _ _ _ ?_; clear hK K hS dd; simp only [recOf]; try walk_nrm)
      | (refine y_unwanted rfl (by rfl) ?_; try walk_nrm) | refine y_condT rfl ?_ | refine y_condF rfl ?_
      | refine y_block ?_ | refine y_label ?_ | refine y_ret ?_ | refine y_end ?_)
    refine y_leave rfl rfl Try.func84 (resultsC_tmp rfl _) ?_
    exact H.out _ _ _ hq.out
  · have hE' : Acts Hd (lockM cc) (One l cc) Q n0 .sw σ0 w0 := by
      have h := hE
      simp only [lockM, e0, if_false] at h
      exact h
    have e3 : decide (y0 = 0) = false := by simp [e0]
    rw [e3]
    clear hE e0 e3 h0 h
    replace hE' := Keep.mk hE'
    walk_nrm
    repeat (first
      | refine y_go rfl ?_
      | (refine y_region ?_; simp only [rg, Nat.reduceAdd, List.range, List.range.loop])
      | (refine y_nw rfl (by rfl) rfl (by exact nx rfl) (fun dd hS K hK => ?_); go_simp; refine hK _ _ _ ?_; clear hK K hS dd; simp only [recOf]; try walk_nrm)
      | (refine y_unwanted rfl (by rfl) ?_; try walk_nrm) | refine y_condT rfl ?_ | refine y_condF rfl ?_
      | refine y_block ?_ | refine y_ret ?_ | refine y_end ?_)
    refine y_label ?_
    refine y_again (fun m a σ' w' => Acts Hd (lockM cc) (One l cc) Q m .sw σ' w' ∧ Tm a 33 [(0, .pointer (some ⟨l, 0, none⟩)), (1, t)]) n0 ⟨hE'.out, ⟨rfl, rfl, rfl, rfl, trivial⟩⟩ ?_
    clear hE' L0
    rintro m IH a σ w1 ⟨h, hT⟩
    obtain ⟨j, rfl, h0', h1', -⟩ := Tm.lit hT
    simp only at h0' h1'
    simp only [List.range, List.range.loop, List.map_cons, List.map_nil, h0', h1']
    clear h0' h1' hT
    have L1 := h.lay
    unfold One at L1
    obtain ⟨n1, hn1, hA⟩ := h.acc (a := ⟨5, cc, 2, 0⟩) rfl
    replace IH := Keep.mk IH
    replace hA := Keep.mk hA
    replace h := Keep.mk h
    replace hn1 := Keep.mk hn1
    repeat (first
      | refine y_go rfl ?_
      | (refine y_region ?_; simp only [rg, Nat.reduceAdd, List.range, List.range.loop])
      | (refine y_nw rfl (by rfl) rfl (by exact nx rfl) (fun dd hS K hK => ?_); go_simp; refine hK _ _ _ ?_; clear hK K hS dd; simp only [recOf]; try walk_nrm)
      | (refine y_unwanted rfl (by rfl) ?_; try walk_nrm) | refine y_condT rfl ?_ | refine y_condF rfl ?_
      | refine y_block ?_ | refine y_label ?_ | refine y_ret ?_ | refine y_end ?_)
    refine y_callP rfl (by rfl) rfl rfl Try.func63 (by kernel_rfl) (by kernel_rfl) (Hd.swap hA.out) (by simp only [List.map_toArray, List.map_cons, List.map_nil] <;> rfl) rfl rfl Try.func84 HN.out ?_
    rintro v σ' w' ⟨x, rfl, hB⟩
    by_cases e : x = 0
    · have hB' : Acts Hd (lockM cc) (One l cc) Q n1 .ok σ' w' := by
        have h := hB
        simp only [lockM, e, if_true] at h
        exact h
      have hq := hB'.done (r := okV) rfl
      have e1 : (x != 0) = false := by simp [e]
      clear hB hB' e
      replace hq := Keep.mk hq
      walk_nrm
      repeat (first
        | refine y_go rfl ?_
        | (refine y_region ?_; simp only [rg, Nat.reduceAdd, List.range, List.range.loop])
        | (refine y_nw rfl (by rfl) rfl (by exact nx rfl) (fun dd hS K hK => ?_); go_simp; refine hK _ _ _ ?_; clear hK K hS dd; simp only [recOf]; try walk_nrm)
        | (refine y_unwanted rfl (by rfl) ?_; try walk_nrm) | refine y_condT rfl ?_ | refine y_condF rfl ?_
        | refine y_block ?_ | refine y_label ?_ | refine y_ret ?_ | refine y_end ?_)
      refine y_leave rfl rfl Try.func84 (resultsC_tmp rfl _) ?_
      exact H.out _ _ _ hq.out
    · have hB' : Acts Hd (lockM cc) (One l cc) Q n1 .pk σ' w' := by
        have h := hB
        simp only [lockM, e, if_false] at h
        exact h
      have L2 := hB'.lay
      unfold One at L2
      obtain ⟨n2, hn2, hC⟩ := hB'.acc (a := ⟨6, cc, 2, 0⟩) rfl
      have e1 : (x != 0) = true := by simp [e]
      clear hB hB' e
      replace hC := Keep.mk hC
      replace hn2 := Keep.mk hn2
      walk_nrm
      repeat (first
        | refine y_go rfl ?_
        | (refine y_region ?_; simp only [rg, Nat.reduceAdd, List.range, List.range.loop])
        | (refine y_nw rfl (by rfl) rfl (by exact nx rfl) (fun dd hS K hK => ?_); go_simp; refine hK _ _ _ ?_; clear hK K hS dd; simp only [recOf]; try walk_nrm)
        | (refine y_unwanted rfl (by rfl) ?_; try walk_nrm) | refine y_condT rfl ?_ | refine y_condF rfl ?_
        | refine y_block ?_ | refine y_label ?_ | refine y_ret ?_ | refine y_end ?_)
      refine y_callP rfl (by rfl) rfl rfl Try.func60 (by kernel_rfl) (by kernel_rfl) (Hd.park hC.out) (by simp only [List.map_toArray, List.map_cons, List.map_nil] <;> rfl) rfl rfl Try.func84 HN.out ?_
      rintro v σ2 w2 ⟨y, rfl, hD⟩
      have hD' : Acts Hd (lockM cc) (One l cc) Q n2 .sw σ2 w2 := hD
      clear hD
      replace hD' := Keep.mk hD'
      walk_nrm
      repeat (first
        | refine y_go rfl ?_
        | (refine y_region ?_; simp only [rg, Nat.reduceAdd, List.range, List.range.loop])
        | (refine y_nw rfl (by rfl) rfl (by exact nx rfl) (fun dd hS K hK => ?_); go_simp; refine hK _ _ _ ?_; clear hK K hS dd; simp only [recOf]; try walk_nrm)
        | (refine y_unwanted rfl (by rfl) ?_; try walk_nrm) | refine y_condT rfl ?_ | refine y_condF rfl ?_
        | refine y_block ?_ | refine y_label ?_ | refine y_ret ?_ | refine y_end ?_)
      refine y_goto rfl (y_seq (y_skip ?_))
      have := hn1.out
      have := hn2.out
      exact IH.out n2 _ _ _ (by omega) ⟨hD'.out, ⟨rfl, rfl, rfl, rfl, trivial⟩⟩

theorem arrive_calls (h : Acts Hd (arrM rd cc N) (Barr l rd cc N) Q n .s0 σ w) (hN : N ≠ 0) : CallsX J 88 #[.pointer (some ⟨l, 0, none⟩), t] σ w Q Hd.N := by
  obtain ⟨b0, b1, b2⟩ := h.lay
  have e0 : (N == 0) = false := by simp [hN]
  obtain ⟨n1, hn1, hA⟩ := h.acc (a := ⟨1, rd, 0, 0⟩) rfl
  clear hN
  refine callsX_body Try.func88 rfl fun c cs H HN => ?_
  simp only [Try.f88, Try.ntmps88, List.size_toArray, List.length_cons, List.length_nil, Nat.reduceAdd, Nat.reduceSub, Nat.zero_add, Array.replicate_succ, Array.replicate_zero, List.push_toArray, List.append_toArray, List.nil_append, List.cons_append, List.append_nil]
  replace H := Keep.mk H
  replace HN := Keep.mk HN
  replace h := Keep.mk h
  replace hA := Keep.mk hA
  repeat (first
    | refine y_go rfl ?_
    | (refine y_region ?_; simp only [rg, Nat.reduceAdd, List.range, List.range.loop])
    | (refine y_nw rfl (by rfl) rfl (by exact nx rfl) (fun dd hS K hK => ?_); go_simp; refine hK _ _ _ ?_; clear hK K hS dd; simp only [recOf]; try walk_nrm)
    | (refine y_unwanted rfl (by rfl) ?_; try walk_nrm) | refine y_condT rfl ?_ | refine y_condF rfl ?_
    | refine y_block ?_ | refine y_label ?_ | refine y_ret ?_ | refine y_end ?_)
  refine y_callP rfl (by rfl) rfl rfl Try.func41 (by kernel_rfl) (by kernel_rfl) (Hd.load hA.out) (by simp only [List.map_toArray, List.map_cons, List.map_nil] <;> rfl) rfl rfl Try.func88 HN.out ?_
  rintro v σ1 w1 ⟨r, rfl, hB0⟩
  have hB : Acts Hd (arrM rd cc N) (Barr l rd cc N) Q n1 (.add r) σ1 w1 := hB0
  obtain ⟨b0, b1, b2⟩ := hB.lay
  obtain ⟨n2, hn2, hC⟩ := hB.acc (a := ⟨4, cc, 1, 0⟩) rfl
  clear hB0
  replace hB := Keep.mk hB
  replace hC := Keep.mk hC
  walk_nrm
  repeat (first
    | refine y_go rfl ?_
    | (refine y_region ?_; simp only [rg, Nat.reduceAdd, List.range, List.range.loop])
    | (refine y_nw rfl (by rfl) rfl (by exact nx rfl) (fun dd hS K hK => ?_); go_simp; refine hK _ _ _ ?_; clear hK K hS dd; simp only [recOf]; try walk_nrm)
    | (refine y_unwanted rfl (by rfl) ?_; try walk_nrm) | refine y_condT rfl ?_ | refine y_condF rfl ?_
    | refine y_block ?_ | refine y_label ?_ | refine y_ret ?_ | refine y_end ?_)
  refine y_drawnNQ (fun ch σ' w' a todo hd hN => y_leave_panic rfl hd Try.func88 (HN.out ch σ' w' hN)) (fun _ w' => w'.cell? ⟨l, 0, none⟩ = some (.int .i64 N) ∧ w'.cell? ⟨l, 1, none⟩ = some (.pointer (some ⟨rd, 0, none⟩)) ∧ w'.cell? ⟨l, 2, none⟩ = some (.pointer (some ⟨cc, 0, none⟩))) (fun _ => false) (by kernel_rfl) rfl ?_
  simp only [List.size_toArray, List.length_cons, List.length_nil, Nat.reduceAdd, Nat.reduceSub, Nat.zero_add, Array.replicate_succ, Array.replicate_zero, List.push_toArray, List.append_toArray, List.nil_append, List.cons_append, List.append_nil]
  first | (apply anyN_tW (i := 0) rfl; (focus rfl); (focus (exact nx rfl)); (focus (rintro σ' w' ⟨s0, s1, s2⟩ d K hK; go_simp; exact hK)); (focus kernel_rfl); (focus (exact ⟨b0, b1, b2⟩))) | (refine anyN_tU (i := 0) rfl rfl (by kernel_rfl) (by exact ⟨b0, b1, b2⟩) ?_)
  try walk_nrm
  first | (apply anyN_tW (i := 1) rfl; (focus rfl); (focus (exact nx rfl)); (focus (rintro σ' w' ⟨s0, s1, s2⟩ d K hK; go_simp; exact hK)); (focus kernel_rfl); (focus (exact ⟨b0, b1, b2⟩))) | (refine anyN_tU (i := 1) rfl rfl (by kernel_rfl) (by exact ⟨b0, b1, b2⟩) ?_)
  try walk_nrm
  first | (apply anyN_tW (i := 2) rfl; (focus rfl); (focus (exact nx rfl)); (focus (rintro σ' w' ⟨s0, s1, s2⟩ d K hK; go_simp; exact hK)); (focus kernel_rfl); (focus (exact ⟨b0, b1, b2⟩))) | (refine anyN_tU (i := 2) rfl rfl (by kernel_rfl) (by exact ⟨b0, b1, b2⟩) ?_)
  try walk_nrm
  first | (apply anyN_tW (i := 3) rfl; (focus rfl); (focus (exact nx rfl)); (focus (rintro σ' w' ⟨s0, s1, s2⟩ d K hK; go_simp; exact hK)); (focus kernel_rfl); (focus (exact ⟨b0, b1, b2⟩))) | (refine anyN_tU (i := 3) rfl rfl (by kernel_rfl) (by exact ⟨b0, b1, b2⟩) ?_)
  try walk_nrm
  first | (apply anyN_tW (i := 4) rfl; (focus rfl); (focus (exact nx rfl)); (focus (rintro σ' w' ⟨s0, s1, s2⟩ d K hK; go_simp; exact hK)); (focus kernel_rfl); (focus (exact ⟨b0, b1, b2⟩))) | (refine anyN_tU (i := 4) rfl rfl (by kernel_rfl) (by exact ⟨b0, b1, b2⟩) ?_)
  try walk_nrm
  first | (apply anyN_tW (i := 5) rfl; (focus rfl); (focus (exact nx rfl)); (focus (rintro σ' w' ⟨s0, s1, s2⟩ d K hK; go_simp; exact hK)); (focus kernel_rfl); (focus (exact ⟨b0, b1, b2⟩))) | (refine anyN_tU (i := 5) rfl rfl (by kernel_rfl) (by exact ⟨b0, b1, b2⟩) ?_)
  try walk_nrm
  first | (apply anyN_tW (i := 7) rfl; (focus rfl); (focus (exact nx rfl)); (focus (rintro σ' w' ⟨s0, s1, s2⟩ d K hK; go_simp; exact hK)); (focus kernel_rfl); (focus (exact ⟨b0, b1, b2⟩))) | (refine anyN_tU (i := 7) rfl rfl (by kernel_rfl) (by exact ⟨b0, b1, b2⟩) ?_)
  try walk_nrm
  first | (apply anyN_tW (i := 8) rfl; (focus rfl); (focus (exact nx rfl)); (focus (rintro σ' w' ⟨s0, s1, s2⟩ d K hK; go_simp; exact hK)); (focus kernel_rfl); (focus (exact ⟨b0, b1, b2⟩))) | (refine anyN_tU (i := 8) rfl rfl (by kernel_rfl) (by exact ⟨b0, b1, b2⟩) ?_)
  try walk_nrm
  first | (apply anyN_tW (i := 9) rfl; (focus rfl); (focus (exact nx rfl)); (focus (rintro σ' w' ⟨s0, s1, s2⟩ d K hK; go_simp; exact hK)); (focus kernel_rfl); (focus (exact ⟨b0, b1, b2⟩))) | (refine anyN_tU (i := 9) rfl rfl (by kernel_rfl) (by exact ⟨b0, b1, b2⟩) ?_)
  try walk_nrm
  first | (apply anyN_tW (i := 10) rfl; (focus rfl); (focus (exact nx rfl)); (focus (rintro σ' w' ⟨s0, s1, s2⟩ d K hK; go_simp; exact hK)); (focus kernel_rfl); (focus (exact ⟨b0, b1, b2⟩))) | (refine anyN_tU (i := 10) rfl rfl (by kernel_rfl) (by exact ⟨b0, b1, b2⟩) ?_)
  try walk_nrm
  refine anyN_one (i := 6) (by kernel_rfl) (opN_call rfl (by rfl) rfl Try.func61 (by kernel_rfl) (by kernel_rfl) (Hd.add hC.out) rfl (by simp only [List.map_toArray, List.map_cons, List.map_nil] <;> rfl) ?_)
  rintro v σ2 w2 ⟨x, rfl, hD⟩
  by_cases e : IntKind.i64.wrap (x + 1) = N
  · have hD' : Acts Hd (arrM rd cc N) (Barr l rd cc N) Q n2 (.st r) σ2 w2 := by
      have h := hD
      simp only [arrM, e, if_true] at h
      exact h
    obtain ⟨b0, b1, b2⟩ := hD'.lay
    obtain ⟨n3, hn3, hE⟩ := hD'.acc (a := ⟨2, cc, 0, 0⟩) rfl
    have e1 : (IntKind.i64.wrap (x + 1) != N) = false := by simp [e]
    clear hD hD' e
    replace hE := Keep.mk hE
    refine ⟨fun _ => ⟨b0, b1, b2⟩, ?_⟩
    walk_nrm
    first | (apply anyN_tW (i := 11) rfl; (focus rfl); (focus (exact nx rfl)); (focus (rintro σ' w' ⟨s0, s1, s2⟩ d K hK; go_simp; exact hK)); (focus kernel_rfl); (focus (exact ⟨b0, b1, b2⟩))) | (refine anyN_tU (i := 11) rfl rfl (by kernel_rfl) (by exact ⟨b0, b1, b2⟩) ?_)
    try walk_nrm
    refine anyN_end (by kernel_rfl) ?_
    repeat (first
      | refine y_go rfl ?_
      | (refine y_region ?_; simp only [rg, Nat.reduceAdd, List.range, List.range.loop])
      | (refine y_nw rfl (by rfl) rfl (by exact nx rfl) (fun dd hS K hK => ?_); go_simp; refine hK _ _ _ ?_; clear hK K hS dd; simp only [recOf]; try walk_nrm)
      | (refine y_unwanted rfl (by rfl) ?_; try walk_nrm) | refine y_condT rfl ?_ | refine y_condF rfl ?_
      | refine y_block ?_ | refine y_label ?_ | refine y_ret ?_ | refine y_end ?_)
    refine y_callP rfl (by rfl) rfl rfl Try.func62 (by kernel_rfl) (by kernel_rfl) (Hd.store hE.out) (by simp only [List.map_toArray, List.map_cons, List.map_nil] <;> rfl) rfl rfl Try.func88 HN.out ?_
    rintro v σ3 w3 ⟨rfl, y, hF0⟩
    have hF : Acts Hd (arrM rd cc N) (Barr l rd cc N) Q n3 (.up r) σ3 w3 := hF0
    obtain ⟨b0, b1, b2⟩ := hF.lay
    obtain ⟨n4, hn4, hG⟩ := hF.acc (a := ⟨4, rd, 1, 0⟩) rfl
    clear hF hF0
    replace hG := Keep.mk hG
    walk_nrm
    repeat (first
      | refine y_go rfl ?_
      | (refine y_region ?_; simp only [rg, Nat.reduceAdd, List.range, List.range.loop])
      | (refine y_nw rfl (by rfl) rfl (by exact nx rfl) (fun dd hS K hK => ?_); go_simp; refine hK _ _ _ ?_; clear hK K hS dd; simp only [recOf]; try walk_nrm)
      | (refine y_unwanted rfl (by rfl) ?_; try walk_nrm) | refine y_condT rfl ?_ | refine y_condF rfl ?_
      | refine y_block ?_ | refine y_label ?_ | refine y_ret ?_ | refine y_end ?_)
    refine y_callP rfl (by rfl) rfl rfl Try.func61 (by kernel_rfl) (by kernel_rfl) (Hd.add hG.out) (by simp only [List.map_toArray, List.map_cons, List.map_nil] <;> rfl) rfl rfl Try.func88 HN.out ?_
    rintro v σ4 w4 ⟨z, rfl, hK0⟩
    have hK : Acts Hd (arrM rd cc N) (Barr l rd cc N) Q n4 (.ok r true) σ4 w4 := hK0
    have hq := hK.done (r := .tuple #[.int .i64 r, .bool true, okV]) rfl
    clear hK hK0
    replace hq := Keep.mk hq
    walk_nrm
    repeat (first
      | refine y_go rfl ?_
      | (refine y_region ?_; simp only [rg, Nat.reduceAdd, List.range, List.range.loop])
      | (refine y_nw rfl (by rfl) rfl (by exact nx rfl) (fun dd hS K hK => ?_); go_simp; refine hK _ _ _ ?_; clear hK K hS dd; simp only [recOf]; try walk_nrm)
      | (refine y_unwanted rfl (by rfl) ?_; try walk_nrm) | refine y_condT rfl ?_ | refine y_condF rfl ?_
      | refine y_block ?_ | refine y_label ?_ | refine y_ret ?_ | refine y_end ?_)
    refine y_leave rfl rfl Try.func88 (resultsC_tmp3 rfl _) ?_
    exact H.out _ _ _ hq.out
  · have hD' : Acts Hd (arrM rd cc N) (Barr l rd cc N) Q n2 (.pk r) σ2 w2 := by
      have h := hD
      simp only [arrM, e, if_false] at h
      exact h
    obtain ⟨b0, b1, b2⟩ := hD'.lay
    obtain ⟨n3, hn3, hE⟩ := hD'.acc (a := ⟨6, rd, r, 0⟩) rfl
    have e1 : (IntKind.i64.wrap (x + 1) != N) = true := by simp [e]
    clear hD hD' e
    replace hE := Keep.mk hE
    refine ⟨fun _ => ⟨b0, b1, b2⟩, ?_⟩
    walk_nrm
    first | (apply anyN_tW (i := 11) rfl; (focus rfl); (focus (exact nx rfl)); (focus (rintro σ' w' ⟨s0, s1, s2⟩ d K hK; go_simp; exact hK)); (focus kernel_rfl); (focus (exact ⟨b0, b1, b2⟩))) | (refine anyN_tU (i := 11) rfl rfl (by kernel_rfl) (by exact ⟨b0, b1, b2⟩) ?_)
    try walk_nrm
    refine anyN_end (by kernel_rfl) ?_
    repeat (first
      | refine y_go rfl ?_
      | (refine y_region ?_; simp only [rg, Nat.reduceAdd, List.range, List.range.loop])
      | (refine y_nw rfl (by rfl) rfl (by exact nx rfl) (fun dd hS K hK => ?_); go_simp; refine hK _ _ _ ?_; clear hK K hS dd; simp only [recOf]; try walk_nrm)
      | (refine y_unwanted rfl (by rfl) ?_; try walk_nrm) | refine y_condT rfl ?_ | refine y_condF rfl ?_
      | refine y_block ?_ | refine y_label ?_ | refine y_ret ?_ | refine y_end ?_)
    refine y_callP rfl (by rfl) rfl rfl Try.func60 (by kernel_rfl) (by kernel_rfl) (Hd.park hE.out) (by simp only [List.map_toArray, List.map_cons, List.map_nil] <;> rfl) rfl rfl Try.func88 HN.out ?_
    rintro v σ3 w3 ⟨y, rfl, hF0⟩
    have hF : Acts Hd (arrM rd cc N) (Barr l rd cc N) Q n3 (.ok r false) σ3 w3 := hF0
    have hq := hF.done (r := .tuple #[.int .i64 r, .bool false, okV]) rfl
    clear hF hF0
    replace hq := Keep.mk hq
    walk_nrm
    repeat (first
      | refine y_go rfl ?_
      | (refine y_region ?_; simp only [rg, Nat.reduceAdd, List.range, List.range.loop])
      | (refine y_nw rfl (by rfl) rfl (by exact nx rfl) (fun dd hS K hK => ?_); go_simp; refine hK _ _ _ ?_; clear hK K hS dd; simp only [recOf]; try walk_nrm)
      | (refine y_unwanted rfl (by rfl) ?_; try walk_nrm) | refine y_condT rfl ?_ | refine y_condF rfl ?_
      | refine y_block ?_ | refine y_label ?_ | refine y_ret ?_ | refine y_end ?_)
    refine y_leave rfl rfl Try.func88 (resultsC_tmp3 rfl _) ?_
    exact H.out _ _ _ hq.out
end
end Go.Proofs.Ytcibnfjpagmdaaa
