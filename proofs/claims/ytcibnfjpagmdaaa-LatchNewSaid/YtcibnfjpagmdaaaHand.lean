/- What a goroutine's hand at the cells is: a thread's under a gate; one that is alone. A call's accesses as a machine of states. -/
import Derived.Test.YtcibnfjpagmdaaaStepA
import Derived.Test.YtcibnfjpagmdaaaStepB
import Derived.Test.YtcibnfjpagmdaaaStepC
set_option linter.unusedSimpArgs false
set_option linter.unusedVariables false
set_option maxRecDepth 100000
set_option maxHeartbeats 2000000
namespace Go.Proofs.Ytcibnfjpagmdaaa
open Go.TX Go.Conc Go.RowKit Go.MapKept

/-- The hand t at the cells: what must hold that an access may be made, so that Φ holds behind it, of what the cell held. -/
structure Hand (J : Judge Try.prog) (t : Value) where
  St : Acc → (Int → Cfg → World → Prop) → Cfg → World → Prop
  N : List PanicEntry → Cfg → World → Prop
  mono : ∀ {a Φ Φ' σ w}, (∀ was σ' w', Φ was σ' w' → Φ' was σ' w') → St a Φ σ w → St a Φ' σ w
  load : ∀ {c Φ σ w}, St ⟨1, c, 0, 0⟩ Φ σ w → CallsX J 41 #[.pointer (some ⟨c, 0, none⟩), t] σ w (fun v σ' w' => ∃ was, v = .int .i64 was ∧ Φ was σ' w') N
  store : ∀ {c u Φ σ w}, St ⟨2, c, u, 0⟩ Φ σ w → CallsX J 62 #[.pointer (some ⟨c, 0, none⟩), t, .int .i64 u] σ w (fun v σ' w' => v = .tuple #[] ∧ ∃ was, Φ was σ' w') N
  cas : ∀ {c old new Φ σ w}, St ⟨3, c, old, new⟩ Φ σ w → CallsX J 64 #[.pointer (some ⟨c, 0, none⟩), t, .int .i64 old, .int .i64 new] σ w (fun v σ' w' => ∃ was, v = .bool (decide (was = old)) ∧ Φ was σ' w') N
  add : ∀ {c d Φ σ w}, St ⟨4, c, d, 0⟩ Φ σ w → CallsX J 61 #[.pointer (some ⟨c, 0, none⟩), t, .int .i64 d] σ w (fun v σ' w' => ∃ was, v = .int .i64 (IntKind.i64.wrap (was + d)) ∧ Φ was σ' w') N
  swap : ∀ {c u Φ σ w}, St ⟨5, c, u, 0⟩ Φ σ w → CallsX J 63 #[.pointer (some ⟨c, 0, none⟩), t, .int .i64 u] σ w (fun v σ' w' => ∃ was, v = .int .i64 was ∧ Φ was σ' w') N
  park : ∀ {c u Φ σ w}, St ⟨6, c, u, 0⟩ Φ σ w → CallsX J 60 #[.pointer (some ⟨c, 0, none⟩), t, .int .i64 u] σ w (fun v σ' w' => ∃ was, v = .int .i64 was ∧ Φ was σ' w') N

/-! ### a thread under a gate -/
section
variable {Fin : Machine → Trace → Prop} {C : Client} {A : GA} {j : Nat} {kap : Nat → C.K} {w : World} {σ : Cfg} {c cc : Nat} {κ : C.K} {s : C.S}

/-- What is held behind an access of thread j's. -/
def AccR (Fin : Machine → Trace → Prop) (C : Client) (m j : Nat) (L : Home) (a : Acc) (κ : C.K) (was : Int) (σ' : Cfg) (w' : World) : Prop :=
  ∃ (p0 : Pub) (kap' : Nat → C.K) (s' : C.S) (A1 : GA) (m' : Nat), m' < m ∧ kap' j = κ ∧ p0.st j = .stands a ∧ (a.op = 6 → p0.cv a.cell ≠ a.arg) ∧ C.I kap' s' p0 A1.own w' ∧ A1.p = p0.access j a ∧ A1.home j = L ∧ Mine Fin C m' j A1 kap' σ' w' ∧ was = p0.cv a.cell
theorem StepR.acc {m : Nat} {a : Acc} {v : Value} {σ' : Cfg} {w' : World} (h : StepR Fin C m j A a κ v σ' w') : ∃ was, v = .tuple #[.int .i64 was, .int .i64 (a.now was), .bool (a.ok was)] ∧ AccR Fin C m j (A.home j) a κ was σ' w' := by
  obtain ⟨p0, kap', s', A1, m', h0, h1, h2, h3, h4, h5, h6, h8, h9⟩ := h
  exact ⟨_, h9, p0, kap', s', A1, m', h0, h1, h2, h3, h4, h5, h6, h8, rfl⟩
theorem Mine.facts {m : Nat} (hM : Mine Fin C m j A kap σ w) (hc : A.cells c) : w.cell? ⟨c, 1, none⟩ = some (.bool true) ∧ w.cell? ⟨A.tb j, 0, none⟩ = some (.pointer (some ⟨A.R, 0, none⟩)) ∧ w.cell? ⟨A.tb j, 13, none⟩ = some (.bool false) := by
  obtain ⟨gs, gm, os, out, rfl, h0, M, hj, hst, hne, B⟩ := hM
  exact ⟨(M.cell c hc).made, M.t0 hj, (M.t13 hj).trans (by simp [hne])⟩

theorem fit1 (c : Nat) : (⟨1, c, 0, 0⟩ : Acc).Fit := ⟨show 1 ≤ 1 by omega, show 1 ≤ 6 by omega, fun _ => rfl, fun _ => rfl⟩
theorem fit2 (c : Nat) (v : Int) : (⟨2, c, v, 0⟩ : Acc).Fit := ⟨show 1 ≤ 2 by omega, show 2 ≤ 6 by omega, fun h => by simp at h, fun _ => rfl⟩
theorem fit3 (c : Nat) (v u : Int) : (⟨3, c, v, u⟩ : Acc).Fit := ⟨show 1 ≤ 3 by omega, show 3 ≤ 6 by omega, fun h => by simp at h, fun h => absurd rfl h⟩
theorem fit4 (c : Nat) (v : Int) : (⟨4, c, v, 0⟩ : Acc).Fit := ⟨show 1 ≤ 4 by omega, show 4 ≤ 6 by omega, fun h => by simp at h, fun _ => rfl⟩
theorem fit5 (c : Nat) (v : Int) : (⟨5, c, v, 0⟩ : Acc).Fit := ⟨show 1 ≤ 5 by omega, show 5 ≤ 6 by omega, fun h => by simp at h, fun _ => rfl⟩
theorem fit6 (c : Nat) (v : Int) : (⟨6, c, v, 0⟩ : Acc).Fit := ⟨show 1 ≤ 6 by omega, show 6 ≤ 6 by omega, fun h => by simp at h, fun _ => rfl⟩

theorem load_g {m : Nat} (hM : Mine Fin C m j A kap σ w) (hc : A.cells cc) (hI : C.I (setAt kap j κ) s (A.p.put j (.stands ⟨1, cc, 0, 0⟩)) A.own w) :
    CallsX (tokenJ Try.prog Fin) 41 #[.pointer (some ⟨cc, 0, none⟩), .pointer (some ⟨A.tb j, 0, none⟩)] σ w (fun v σ' w' => ∃ was, v = .int .i64 was ∧ AccR Fin C m j (A.home j) ⟨1, cc, 0, 0⟩ κ was σ' w') (StopN Fin j (A.home j)) := by
  obtain ⟨f1, f2, f3⟩ := hM.facts hc
  refine callsX_body Try.func41 rfl fun c cs H HN => ?_
  simp only [Try.f41, Try.ntmps41, List.size_toArray, List.length_cons, List.length_nil, Nat.reduceAdd, Nat.reduceSub, Nat.zero_add, Array.replicate_succ, Array.replicate_zero, List.push_toArray, List.append_toArray, List.nil_append, List.cons_append, List.append_nil]
  replace H := Keep.mk H
  replace HN := Keep.mk HN
  replace hM := Keep.mk hM
  replace hI := Keep.mk hI
  repeat (first
    | refine y_go rfl ?_
    | (refine y_region ?_; simp only [rg, Nat.reduceAdd, List.range, List.range.loop])
    | (refine y_nw rfl (by rfl) rfl (by exact nx rfl) (fun dd hS K hK => ?_); go_simp; refine hK _ _ _ ?_; clear hK K hS dd; simp only [recOf]; try walk_nrm)
    | (refine y_unwanted rfl (by rfl) ?_; try walk_nrm) | refine y_condT rfl ?_ | refine y_condF rfl ?_
    | refine y_block ?_ | refine y_label ?_ | refine y_ret ?_ | refine y_end ?_)
  refine y_callR rfl (by rfl) rfl rfl Try.func138 (by kernel_rfl) (by kernel_rfl) (cell_none_made cc true f1) (by simp only [List.map_toArray, List.map_cons, List.map_nil] <;> rfl) ?_
  rintro _ σ'' w'' ⟨rfl, e2, e3⟩
  rw [e2, e3]
  clear e2 e3 w'' σ''
  walk_nrm
  repeat (first
    | refine y_go rfl ?_
    | (refine y_region ?_; simp only [rg, Nat.reduceAdd, List.range, List.range.loop])
    | (refine y_nw rfl (by rfl) rfl (by exact nx rfl) (fun dd hS K hK => ?_); go_simp; refine hK _ _ _ ?_; clear hK K hS dd; simp only [recOf]; try walk_nrm)
    | (refine y_unwanted rfl (by rfl) ?_; try walk_nrm) | refine y_condT rfl ?_ | refine y_condF rfl ?_
    | refine y_block ?_ | refine y_label ?_ | refine y_ret ?_ | refine y_end ?_)
  refine y_callR rfl (by rfl) rfl rfl Try.func139 (by kernel_rfl) (by kernel_rfl) (live_on f2 f3) (by simp only [List.map_toArray, List.map_cons, List.map_nil] <;> rfl) ?_
  rintro _ σ'' w'' ⟨rfl, e2, e3⟩
  rw [e2, e3]
  clear e2 e3 w'' σ''
  walk_nrm
  repeat (first
    | refine y_go rfl ?_
    | (refine y_region ?_; simp only [rg, Nat.reduceAdd, List.range, List.range.loop])
    | (refine y_nw rfl (by rfl) rfl (by exact nx rfl) (fun dd hS K hK => ?_); go_simp; refine hK _ _ _ ?_; clear hK K hS dd; simp only [recOf]; try walk_nrm)
    | (refine y_unwanted rfl (by rfl) ?_; try walk_nrm) | refine y_condT rfl ?_ | refine y_condF rfl ?_
    | refine y_block ?_ | refine y_label ?_ | refine y_ret ?_ | refine y_end ?_)
  refine y_callP rfl (by rfl) rfl rfl Try.func140 (by kernel_rfl) (by kernel_rfl) (step_1 hM.out hc (fit1 cc) hI.out) (by simp only [List.map_toArray, List.map_cons, List.map_nil] <;> rfl) rfl rfl Try.func41 HN.out ?_
  intro v σ' w' hQ
  obtain ⟨was, rfl, hR⟩ := hQ.acc
  clear hQ
  walk_nrm
  replace hR := Keep.mk hR
  repeat (first
    | refine y_go rfl ?_
    | (refine y_region ?_; simp only [rg, Nat.reduceAdd, List.range, List.range.loop])
    | (refine y_nw rfl (by rfl) rfl (by exact nx rfl) (fun dd hS K hK => ?_); go_simp; refine hK _ _ _ ?_; clear hK K hS dd; simp only [recOf]; try walk_nrm)
    | (refine y_unwanted rfl (by rfl) ?_; try walk_nrm) | refine y_condT rfl ?_ | refine y_condF rfl ?_
    | refine y_block ?_ | refine y_label ?_ | refine y_ret ?_ | refine y_end ?_)
  refine y_leave rfl rfl Try.func41 (resultsC_tmp rfl _) ?_
  exact H.out _ _ _ ⟨was, rfl, hR.out⟩

theorem store_g {m : Nat} {u : Int} (hM : Mine Fin C m j A kap σ w) (hc : A.cells cc) (hI : C.I (setAt kap j κ) s (A.p.put j (.stands ⟨2, cc, u, 0⟩)) A.own w) :
    CallsX (tokenJ Try.prog Fin) 62 #[.pointer (some ⟨cc, 0, none⟩), .pointer (some ⟨A.tb j, 0, none⟩), .int .i64 u] σ w (fun v σ' w' => ∃ was, v = .tuple #[] ∧ AccR Fin C m j (A.home j) ⟨2, cc, u, 0⟩ κ was σ' w') (StopN Fin j (A.home j)) := by
  obtain ⟨f1, f2, f3⟩ := hM.facts hc
  refine callsX_body Try.func62 rfl fun c cs H HN => ?_
  simp only [Try.f62, Try.ntmps62, List.size_toArray, List.length_cons, List.length_nil, Nat.reduceAdd, Nat.reduceSub, Nat.zero_add, Array.replicate_succ, Array.replicate_zero, List.push_toArray, List.append_toArray, List.nil_append, List.cons_append, List.append_nil]
  replace H := Keep.mk H
  replace HN := Keep.mk HN
  replace hM := Keep.mk hM
  replace hI := Keep.mk hI
  repeat (first
    | refine y_go rfl ?_
    | (refine y_region ?_; simp only [rg, Nat.reduceAdd, List.range, List.range.loop])
    | (refine y_nw rfl (by rfl) rfl (by exact nx rfl) (fun dd hS K hK => ?_); go_simp; refine hK _ _ _ ?_; clear hK K hS dd; simp only [recOf]; try walk_nrm)
    | (refine y_unwanted rfl (by rfl) ?_; try walk_nrm) | refine y_condT rfl ?_ | refine y_condF rfl ?_
    | refine y_block ?_ | refine y_label ?_ | refine y_ret ?_ | refine y_end ?_)
  refine y_callR rfl (by rfl) rfl rfl Try.func138 (by kernel_rfl) (by kernel_rfl) (cell_none_made cc true f1) (by simp only [List.map_toArray, List.map_cons, List.map_nil] <;> rfl) ?_
  rintro _ σ'' w'' ⟨rfl, e2, e3⟩
  rw [e2, e3]
  clear e2 e3 w'' σ''
  walk_nrm
  repeat (first
    | refine y_go rfl ?_
    | (refine y_region ?_; simp only [rg, Nat.reduceAdd, List.range, List.range.loop])
    | (refine y_nw rfl (by rfl) rfl (by exact nx rfl) (fun dd hS K hK => ?_); go_simp; refine hK _ _ _ ?_; clear hK K hS dd; simp only [recOf]; try walk_nrm)
    | (refine y_unwanted rfl (by rfl) ?_; try walk_nrm) | refine y_condT rfl ?_ | refine y_condF rfl ?_
    | refine y_block ?_ | refine y_label ?_ | refine y_ret ?_ | refine y_end ?_)
  refine y_callR rfl (by rfl) rfl rfl Try.func139 (by kernel_rfl) (by kernel_rfl) (live_on f2 f3) (by simp only [List.map_toArray, List.map_cons, List.map_nil] <;> rfl) ?_
  rintro _ σ'' w'' ⟨rfl, e2, e3⟩
  rw [e2, e3]
  clear e2 e3 w'' σ''
  walk_nrm
  repeat (first
    | refine y_go rfl ?_
    | (refine y_region ?_; simp only [rg, Nat.reduceAdd, List.range, List.range.loop])
    | (refine y_nw rfl (by rfl) rfl (by exact nx rfl) (fun dd hS K hK => ?_); go_simp; refine hK _ _ _ ?_; clear hK K hS dd; simp only [recOf]; try walk_nrm)
    | (refine y_unwanted rfl (by rfl) ?_; try walk_nrm) | refine y_condT rfl ?_ | refine y_condF rfl ?_
    | refine y_block ?_ | refine y_label ?_ | refine y_ret ?_ | refine y_end ?_)
  refine y_callP rfl (by rfl) rfl rfl Try.func140 (by kernel_rfl) (by kernel_rfl) (step_2 hM.out hc (fit2 cc u) hI.out) (by simp only [List.map_toArray, List.map_cons, List.map_nil] <;> rfl) rfl rfl Try.func62 HN.out ?_
  intro v σ' w' hQ
  obtain ⟨was, rfl, hR⟩ := hQ.acc
  clear hQ
  walk_nrm
  replace hR := Keep.mk hR
  repeat (first
    | refine y_go rfl ?_
    | (refine y_region ?_; simp only [rg, Nat.reduceAdd, List.range, List.range.loop])
    | (refine y_nw rfl (by rfl) rfl (by exact nx rfl) (fun dd hS K hK => ?_); go_simp; refine hK _ _ _ ?_; clear hK K hS dd; simp only [recOf]; try walk_nrm)
    | (refine y_unwanted rfl (by rfl) ?_; try walk_nrm) | refine y_condT rfl ?_ | refine y_condF rfl ?_
    | refine y_block ?_ | refine y_label ?_ | refine y_ret ?_ | refine y_end ?_)
  refine y_leave rfl rfl Try.func62 (resultsC_none rfl _) ?_
  exact H.out _ _ _ ⟨was, rfl, hR.out⟩

theorem cas_g {m : Nat} {old : Int} {new : Int} (hM : Mine Fin C m j A kap σ w) (hc : A.cells cc) (hI : C.I (setAt kap j κ) s (A.p.put j (.stands ⟨3, cc, old, new⟩)) A.own w) :
    CallsX (tokenJ Try.prog Fin) 64 #[.pointer (some ⟨cc, 0, none⟩), .pointer (some ⟨A.tb j, 0, none⟩), .int .i64 old, .int .i64 new] σ w (fun v σ' w' => ∃ was, v = .bool (decide (was = old)) ∧ AccR Fin C m j (A.home j) ⟨3, cc, old, new⟩ κ was σ' w') (StopN Fin j (A.home j)) := by
  obtain ⟨f1, f2, f3⟩ := hM.facts hc
  refine callsX_body Try.func64 rfl fun c cs H HN => ?_
  simp only [Try.f64, Try.ntmps64, List.size_toArray, List.length_cons, List.length_nil, Nat.reduceAdd, Nat.reduceSub, Nat.zero_add, Array.replicate_succ, Array.replicate_zero, List.push_toArray, List.append_toArray, List.nil_append, List.cons_append, List.append_nil]
  replace H := Keep.mk H
  replace HN := Keep.mk HN
  replace hM := Keep.mk hM
  replace hI := Keep.mk hI
  repeat (first
    | refine y_go rfl ?_
    | (refine y_region ?_; simp only [rg, Nat.reduceAdd, List.range, List.range.loop])
    | (refine y_nw rfl (by rfl) rfl (by exact nx rfl) (fun dd hS K hK => ?_); go_simp; refine hK _ _ _ ?_; clear hK K hS dd; simp only [recOf]; try walk_nrm)
    | (refine y_unwanted rfl (by rfl) ?_; try walk_nrm) | refine y_condT rfl ?_ | refine y_condF rfl ?_
    | refine y_block ?_ | refine y_label ?_ | refine y_ret ?_ | refine y_end ?_)
  refine y_callR rfl (by rfl) rfl rfl Try.func138 (by kernel_rfl) (by kernel_rfl) (cell_none_made cc true f1) (by simp only [List.map_toArray, List.map_cons, List.map_nil] <;> rfl) ?_
  rintro _ σ'' w'' ⟨rfl, e2, e3⟩
  rw [e2, e3]
  clear e2 e3 w'' σ''
  walk_nrm
  repeat (first
    | refine y_go rfl ?_
    | (refine y_region ?_; simp only [rg, Nat.reduceAdd, List.range, List.range.loop])
    | (refine y_nw rfl (by rfl) rfl (by exact nx rfl) (fun dd hS K hK => ?_); go_simp; refine hK _ _ _ ?_; clear hK K hS dd; simp only [recOf]; try walk_nrm)
    | (refine y_unwanted rfl (by rfl) ?_; try walk_nrm) | refine y_condT rfl ?_ | refine y_condF rfl ?_
    | refine y_block ?_ | refine y_label ?_ | refine y_ret ?_ | refine y_end ?_)
  refine y_callR rfl (by rfl) rfl rfl Try.func139 (by kernel_rfl) (by kernel_rfl) (live_on f2 f3) (by simp only [List.map_toArray, List.map_cons, List.map_nil] <;> rfl) ?_
  rintro _ σ'' w'' ⟨rfl, e2, e3⟩
  rw [e2, e3]
  clear e2 e3 w'' σ''
  walk_nrm
  repeat (first
    | refine y_go rfl ?_
    | (refine y_region ?_; simp only [rg, Nat.reduceAdd, List.range, List.range.loop])
    | (refine y_nw rfl (by rfl) rfl (by exact nx rfl) (fun dd hS K hK => ?_); go_simp; refine hK _ _ _ ?_; clear hK K hS dd; simp only [recOf]; try walk_nrm)
    | (refine y_unwanted rfl (by rfl) ?_; try walk_nrm) | refine y_condT rfl ?_ | refine y_condF rfl ?_
    | refine y_block ?_ | refine y_label ?_ | refine y_ret ?_ | refine y_end ?_)
  refine y_callP rfl (by rfl) rfl rfl Try.func140 (by kernel_rfl) (by kernel_rfl) (step_3 hM.out hc (fit3 cc old new) hI.out) (by simp only [List.map_toArray, List.map_cons, List.map_nil] <;> rfl) rfl rfl Try.func64 HN.out ?_
  intro v σ' w' hQ
  obtain ⟨was, rfl, hR⟩ := hQ.acc
  clear hQ
  walk_nrm
  replace hR := Keep.mk hR
  repeat (first
    | refine y_go rfl ?_
    | (refine y_region ?_; simp only [rg, Nat.reduceAdd, List.range, List.range.loop])
    | (refine y_nw rfl (by rfl) rfl (by exact nx rfl) (fun dd hS K hK => ?_); go_simp; refine hK _ _ _ ?_; clear hK K hS dd; simp only [recOf]; try walk_nrm)
    | (refine y_unwanted rfl (by rfl) ?_; try walk_nrm) | refine y_condT rfl ?_ | refine y_condF rfl ?_
    | refine y_block ?_ | refine y_label ?_ | refine y_ret ?_ | refine y_end ?_)
  refine y_leave rfl rfl Try.func64 (resultsC_tmp rfl _) ?_
  exact H.out _ _ _ ⟨was, by simp [Acc.ok], hR.out⟩

theorem add_g {m : Nat} {d : Int} (hM : Mine Fin C m j A kap σ w) (hc : A.cells cc) (hI : C.I (setAt kap j κ) s (A.p.put j (.stands ⟨4, cc, d, 0⟩)) A.own w) :
    CallsX (tokenJ Try.prog Fin) 61 #[.pointer (some ⟨cc, 0, none⟩), .pointer (some ⟨A.tb j, 0, none⟩), .int .i64 d] σ w (fun v σ' w' => ∃ was, v = .int .i64 (IntKind.i64.wrap (was + d)) ∧ AccR Fin C m j (A.home j) ⟨4, cc, d, 0⟩ κ was σ' w') (StopN Fin j (A.home j)) := by
  obtain ⟨f1, f2, f3⟩ := hM.facts hc
  refine callsX_body Try.func61 rfl fun c cs H HN => ?_
  simp only [Try.f61, Try.ntmps61, List.size_toArray, List.length_cons, List.length_nil, Nat.reduceAdd, Nat.reduceSub, Nat.zero_add, Array.replicate_succ, Array.replicate_zero, List.push_toArray, List.append_toArray, List.nil_append, List.cons_append, List.append_nil]
  replace H := Keep.mk H
  replace HN := Keep.mk HN
  replace hM := Keep.mk hM
  replace hI := Keep.mk hI
  repeat (first
    | refine y_go rfl ?_
    | (refine y_region ?_; simp only [rg, Nat.reduceAdd, List.range, List.range.loop])
    | (refine y_nw rfl (by rfl) rfl (by exact nx rfl) (fun dd hS K hK => ?_); go_simp; refine hK _ _ _ ?_; clear hK K hS dd; simp only [recOf]; try walk_nrm)
    | (refine y_unwanted rfl (by rfl) ?_; try walk_nrm) | refine y_condT rfl ?_ | refine y_condF rfl ?_
    | refine y_block ?_ | refine y_label ?_ | refine y_ret ?_ | refine y_end ?_)
  refine y_callR rfl (by rfl) rfl rfl Try.func138 (by kernel_rfl) (by kernel_rfl) (cell_none_made cc true f1) (by simp only [List.map_toArray, List.map_cons, List.map_nil] <;> rfl) ?_
  rintro _ σ'' w'' ⟨rfl, e2, e3⟩
  rw [e2, e3]
  clear e2 e3 w'' σ''
  walk_nrm
  repeat (first
    | refine y_go rfl ?_
    | (refine y_region ?_; simp only [rg, Nat.reduceAdd, List.range, List.range.loop])
    | (refine y_nw rfl (by rfl) rfl (by exact nx rfl) (fun dd hS K hK => ?_); go_simp; refine hK _ _ _ ?_; clear hK K hS dd; simp only [recOf]; try walk_nrm)
    | (refine y_unwanted rfl (by rfl) ?_; try walk_nrm) | refine y_condT rfl ?_ | refine y_condF rfl ?_
    | refine y_block ?_ | refine y_label ?_ | refine y_ret ?_ | refine y_end ?_)
  refine y_callR rfl (by rfl) rfl rfl Try.func139 (by kernel_rfl) (by kernel_rfl) (live_on f2 f3) (by simp only [List.map_toArray, List.map_cons, List.map_nil] <;> rfl) ?_
  rintro _ σ'' w'' ⟨rfl, e2, e3⟩
  rw [e2, e3]
  clear e2 e3 w'' σ''
  walk_nrm
  repeat (first
    | refine y_go rfl ?_
    | (refine y_region ?_; simp only [rg, Nat.reduceAdd, List.range, List.range.loop])
    | (refine y_nw rfl (by rfl) rfl (by exact nx rfl) (fun dd hS K hK => ?_); go_simp; refine hK _ _ _ ?_; clear hK K hS dd; simp only [recOf]; try walk_nrm)
    | (refine y_unwanted rfl (by rfl) ?_; try walk_nrm) | refine y_condT rfl ?_ | refine y_condF rfl ?_
    | refine y_block ?_ | refine y_label ?_ | refine y_ret ?_ | refine y_end ?_)
  refine y_callP rfl (by rfl) rfl rfl Try.func140 (by kernel_rfl) (by kernel_rfl) (step_4 hM.out hc (fit4 cc d) hI.out) (by simp only [List.map_toArray, List.map_cons, List.map_nil] <;> rfl) rfl rfl Try.func61 HN.out ?_
  intro v σ' w' hQ
  obtain ⟨was, rfl, hR⟩ := hQ.acc
  clear hQ
  walk_nrm
  replace hR := Keep.mk hR
  repeat (first
    | refine y_go rfl ?_
    | (refine y_region ?_; simp only [rg, Nat.reduceAdd, List.range, List.range.loop])
    | (refine y_nw rfl (by rfl) rfl (by exact nx rfl) (fun dd hS K hK => ?_); go_simp; refine hK _ _ _ ?_; clear hK K hS dd; simp only [recOf]; try walk_nrm)
    | (refine y_unwanted rfl (by rfl) ?_; try walk_nrm) | refine y_condT rfl ?_ | refine y_condF rfl ?_
    | refine y_block ?_ | refine y_label ?_ | refine y_ret ?_ | refine y_end ?_)
  refine y_leave rfl rfl Try.func61 (resultsC_tmp rfl _) ?_
  exact H.out _ _ _ ⟨was, by simp [Acc.now], hR.out⟩

theorem swap_g {m : Nat} {u : Int} (hM : Mine Fin C m j A kap σ w) (hc : A.cells cc) (hI : C.I (setAt kap j κ) s (A.p.put j (.stands ⟨5, cc, u, 0⟩)) A.own w) :
    CallsX (tokenJ Try.prog Fin) 63 #[.pointer (some ⟨cc, 0, none⟩), .pointer (some ⟨A.tb j, 0, none⟩), .int .i64 u] σ w (fun v σ' w' => ∃ was, v = .int .i64 was ∧ AccR Fin C m j (A.home j) ⟨5, cc, u, 0⟩ κ was σ' w') (StopN Fin j (A.home j)) := by
  obtain ⟨f1, f2, f3⟩ := hM.facts hc
  refine callsX_body Try.func63 rfl fun c cs H HN => ?_
  simp only [Try.f63, Try.ntmps63, List.size_toArray, List.length_cons, List.length_nil, Nat.reduceAdd, Nat.reduceSub, Nat.zero_add, Array.replicate_succ, Array.replicate_zero, List.push_toArray, List.append_toArray, List.nil_append, List.cons_append, List.append_nil]
  replace H := Keep.mk H
  replace HN := Keep.mk HN
  replace hM := Keep.mk hM
  replace hI := Keep.mk hI
  repeat (first
    | refine y_go rfl ?_
    | (refine y_region ?_; simp only [rg, Nat.reduceAdd, List.range, List.range.loop])
    | (refine y_nw rfl (by rfl) rfl (by exact nx rfl) (fun dd hS K hK => ?_); go_simp; refine hK _ _ _ ?_; clear hK K hS dd; simp only [recOf]; try walk_nrm)
    | (refine y_unwanted rfl (by rfl) ?_; try walk_nrm) | refine y_condT rfl ?_ | refine y_condF rfl ?_
    | refine y_block ?_ | refine y_label ?_ | refine y_ret ?_ | refine y_end ?_)
  refine y_callR rfl (by rfl) rfl rfl Try.func138 (by kernel_rfl) (by kernel_rfl) (cell_none_made cc true f1) (by simp only [List.map_toArray, List.map_cons, List.map_nil] <;> rfl) ?_
  rintro _ σ'' w'' ⟨rfl, e2, e3⟩
  rw [e2, e3]
  clear e2 e3 w'' σ''
  walk_nrm
  repeat (first
    | refine y_go rfl ?_
    | (refine y_region ?_; simp only [rg, Nat.reduceAdd, List.range, List.range.loop])
    | (refine y_nw rfl (by rfl) rfl (by exact nx rfl) (fun dd hS K hK => ?_); go_simp; refine hK _ _ _ ?_; clear hK K hS dd; simp only [recOf]; try walk_nrm)
    | (refine y_unwanted rfl (by rfl) ?_; try walk_nrm) | refine y_condT rfl ?_ | refine y_condF rfl ?_
    | refine y_block ?_ | refine y_label ?_ | refine y_ret ?_ | refine y_end ?_)
  refine y_callR rfl (by rfl) rfl rfl Try.func139 (by kernel_rfl) (by kernel_rfl) (live_on f2 f3) (by simp only [List.map_toArray, List.map_cons, List.map_nil] <;> rfl) ?_
  rintro _ σ'' w'' ⟨rfl, e2, e3⟩
  rw [e2, e3]
  clear e2 e3 w'' σ''
  walk_nrm
  repeat (first
    | refine y_go rfl ?_
    | (refine y_region ?_; simp only [rg, Nat.reduceAdd, List.range, List.range.loop])
    | (refine y_nw rfl (by rfl) rfl (by exact nx rfl) (fun dd hS K hK => ?_); go_simp; refine hK _ _ _ ?_; clear hK K hS dd; simp only [recOf]; try walk_nrm)
    | (refine y_unwanted rfl (by rfl) ?_; try walk_nrm) | refine y_condT rfl ?_ | refine y_condF rfl ?_
    | refine y_block ?_ | refine y_label ?_ | refine y_ret ?_ | refine y_end ?_)
  refine y_callP rfl (by rfl) rfl rfl Try.func140 (by kernel_rfl) (by kernel_rfl) (step_5 hM.out hc (fit5 cc u) hI.out) (by simp only [List.map_toArray, List.map_cons, List.map_nil] <;> rfl) rfl rfl Try.func63 HN.out ?_
  intro v σ' w' hQ
  obtain ⟨was, rfl, hR⟩ := hQ.acc
  clear hQ
  walk_nrm
  replace hR := Keep.mk hR
  repeat (first
    | refine y_go rfl ?_
    | (refine y_region ?_; simp only [rg, Nat.reduceAdd, List.range, List.range.loop])
    | (refine y_nw rfl (by rfl) rfl (by exact nx rfl) (fun dd hS K hK => ?_); go_simp; refine hK _ _ _ ?_; clear hK K hS dd; simp only [recOf]; try walk_nrm)
    | (refine y_unwanted rfl (by rfl) ?_; try walk_nrm) | refine y_condT rfl ?_ | refine y_condF rfl ?_
    | refine y_block ?_ | refine y_label ?_ | refine y_ret ?_ | refine y_end ?_)
  refine y_leave rfl rfl Try.func63 (resultsC_tmp rfl _) ?_
  exact H.out _ _ _ ⟨was, rfl, hR.out⟩

theorem park_g {m : Nat} {u : Int} (hM : Mine Fin C m j A kap σ w) (hc : A.cells cc) (hI : C.I (setAt kap j κ) s (A.p.put j (.stands ⟨6, cc, u, 0⟩)) A.own w) :
    CallsX (tokenJ Try.prog Fin) 60 #[.pointer (some ⟨cc, 0, none⟩), .pointer (some ⟨A.tb j, 0, none⟩), .int .i64 u] σ w (fun v σ' w' => ∃ was, v = .int .i64 was ∧ AccR Fin C m j (A.home j) ⟨6, cc, u, 0⟩ κ was σ' w') (StopN Fin j (A.home j)) := by
  obtain ⟨f1, f2, f3⟩ := hM.facts hc
  refine callsX_body Try.func60 rfl fun c cs H HN => ?_
  simp only [Try.f60, Try.ntmps60, List.size_toArray, List.length_cons, List.length_nil, Nat.reduceAdd, Nat.reduceSub, Nat.zero_add, Array.replicate_succ, Array.replicate_zero, List.push_toArray, List.append_toArray, List.nil_append, List.cons_append, List.append_nil]
  replace H := Keep.mk H
  replace HN := Keep.mk HN
  replace hM := Keep.mk hM
  replace hI := Keep.mk hI
  repeat (first
    | refine y_go rfl ?_
    | (refine y_region ?_; simp only [rg, Nat.reduceAdd, List.range, List.range.loop])
    | (refine y_nw rfl (by rfl) rfl (by exact nx rfl) (fun dd hS K hK => ?_); go_simp; refine hK _ _ _ ?_; clear hK K hS dd; simp only [recOf]; try walk_nrm)
    | (refine y_unwanted rfl (by rfl) ?_; try walk_nrm) | refine y_condT rfl ?_ | refine y_condF rfl ?_
    | refine y_block ?_ | refine y_label ?_ | refine y_ret ?_ | refine y_end ?_)
  refine y_callR rfl (by rfl) rfl rfl Try.func138 (by kernel_rfl) (by kernel_rfl) (cell_none_made cc true f1) (by simp only [List.map_toArray, List.map_cons, List.map_nil] <;> rfl) ?_
  rintro _ σ'' w'' ⟨rfl, e2, e3⟩
  rw [e2, e3]
  clear e2 e3 w'' σ''
  walk_nrm
  repeat (first
    | refine y_go rfl ?_
    | (refine y_region ?_; simp only [rg, Nat.reduceAdd, List.range, List.range.loop])
    | (refine y_nw rfl (by rfl) rfl (by exact nx rfl) (fun dd hS K hK => ?_); go_simp; refine hK _ _ _ ?_; clear hK K hS dd; simp only [recOf]; try walk_nrm)
    | (refine y_unwanted rfl (by rfl) ?_; try walk_nrm) | refine y_condT rfl ?_ | refine y_condF rfl ?_
    | refine y_block ?_ | refine y_label ?_ | refine y_ret ?_ | refine y_end ?_)
  refine y_callR rfl (by rfl) rfl rfl Try.func139 (by kernel_rfl) (by kernel_rfl) (live_on f2 f3) (by simp only [List.map_toArray, List.map_cons, List.map_nil] <;> rfl) ?_
  rintro _ σ'' w'' ⟨rfl, e2, e3⟩
  rw [e2, e3]
  clear e2 e3 w'' σ''
  walk_nrm
  repeat (first
    | refine y_go rfl ?_
    | (refine y_region ?_; simp only [rg, Nat.reduceAdd, List.range, List.range.loop])
    | (refine y_nw rfl (by rfl) rfl (by exact nx rfl) (fun dd hS K hK => ?_); go_simp; refine hK _ _ _ ?_; clear hK K hS dd; simp only [recOf]; try walk_nrm)
    | (refine y_unwanted rfl (by rfl) ?_; try walk_nrm) | refine y_condT rfl ?_ | refine y_condF rfl ?_
    | refine y_block ?_ | refine y_label ?_ | refine y_ret ?_ | refine y_end ?_)
  refine y_callP rfl (by rfl) rfl rfl Try.func140 (by kernel_rfl) (by kernel_rfl) (step_6 hM.out hc (fit6 cc u) hI.out) (by simp only [List.map_toArray, List.map_cons, List.map_nil] <;> rfl) rfl rfl Try.func60 HN.out ?_
  intro v σ' w' hQ
  obtain ⟨was, rfl, hR⟩ := hQ.acc
  clear hQ
  walk_nrm
  replace hR := Keep.mk hR
  repeat (first
    | refine y_go rfl ?_
    | (refine y_region ?_; simp only [rg, Nat.reduceAdd, List.range, List.range.loop])
    | (refine y_nw rfl (by rfl) rfl (by exact nx rfl) (fun dd hS K hK => ?_); go_simp; refine hK _ _ _ ?_; clear hK K hS dd; simp only [recOf]; try walk_nrm)
    | (refine y_unwanted rfl (by rfl) ?_; try walk_nrm) | refine y_condT rfl ?_ | refine y_condF rfl ?_
    | refine y_block ?_ | refine y_label ?_ | refine y_ret ?_ | refine y_end ?_)
  refine y_leave rfl rfl Try.func60 (resultsC_tmp rfl _) ?_
  exact H.out _ _ _ ⟨was, rfl, hR.out⟩

end

section
variable {Fin : Machine → Trace → Prop} {C : Client} {j : Nat} {L : Home}
/-- The hand of thread j under way. -/
def gateHand (Fin : Machine → Trace → Prop) (C : Client) (j : Nat) (L : Home) : Hand (tokenJ Try.prog Fin) (.pointer (some ⟨L.tb, 0, none⟩)) where
  St := fun a Φ σ w => ∃ (m : Nat) (A : GA) (kap : Nat → C.K) (κ : C.K) (s : C.S), A.home j = L ∧ Mine Fin C m j A kap σ w ∧ A.cells a.cell ∧ C.I (setAt kap j κ) s (A.p.put j (.stands a)) A.own w ∧ ∀ was σ' w', AccR Fin C m j L a κ was σ' w' → Φ was σ' w'
  N := StopN Fin j L
  mono := fun h ⟨m, A, kap, κ, s, h1, h3, h4, h5, h6⟩ => ⟨m, A, kap, κ, s, h1, h3, h4, h5, fun was σ' w' hR => h was σ' w' (h6 was σ' w' hR)⟩
  load := fun ⟨m, A, kap, κ, s, h1, h3, h4, h5, h6⟩ => by subst h1; exact (load_g h3 h4 h5).mono fun v σ' w' ⟨was, h, hR⟩ => ⟨was, h, h6 _ _ _ hR⟩
  store := fun ⟨m, A, kap, κ, s, h1, h3, h4, h5, h6⟩ => by subst h1; exact (store_g h3 h4 h5).mono fun v σ' w' ⟨was, h, hR⟩ => ⟨h, was, h6 _ _ _ hR⟩
  cas := fun ⟨m, A, kap, κ, s, h1, h3, h4, h5, h6⟩ => by subst h1; exact (cas_g h3 h4 h5).mono fun v σ' w' ⟨was, h, hR⟩ => ⟨was, h, h6 _ _ _ hR⟩
  add := fun ⟨m, A, kap, κ, s, h1, h3, h4, h5, h6⟩ => by subst h1; exact (add_g h3 h4 h5).mono fun v σ' w' ⟨was, h, hR⟩ => ⟨was, h, h6 _ _ _ hR⟩
  swap := fun ⟨m, A, kap, κ, s, h1, h3, h4, h5, h6⟩ => by subst h1; exact (swap_g h3 h4 h5).mono fun v σ' w' ⟨was, h, hR⟩ => ⟨was, h, h6 _ _ _ hR⟩
  park := fun ⟨m, A, kap, κ, s, h1, h3, h4, h5, h6⟩ => by subst h1; exact (park_g h3 h4 h5).mono fun v σ' w' ⟨was, h, hR⟩ => ⟨was, h, h6 _ _ _ hR⟩
end

/-! ### a call as a machine of states -/
structure Mach (R : Type) where
  K : Type
  obs : K → Acc ⊕ R
  nxt : K → Int → K

/-- Whoever does what machine M wants from state k on may do it, so many accesses at most; Lay stands all the while; in the end Q. -/
def Acts {J : Judge Try.prog} {t : Value} (H : Hand J t) {R : Type} (M : Mach R) (Lay : Cfg → World → Prop) (Q : R → Cfg → World → Prop) : Nat → M.K → Cfg → World → Prop
  | 0, _, _, _ => False
  | n + 1, k, σ, w => Lay σ w ∧ (∀ a, M.obs k = .inl a → H.St a (fun was σ' w' => Acts H M Lay Q n (M.nxt k was) σ' w') σ w) ∧ ∀ r, M.obs k = .inr r → Q r σ w

section
variable {J : Judge Try.prog} {t : Value} {H : Hand J t} {R : Type} {M : Mach R} {Lay Lay' : Cfg → World → Prop} {Q Q' : R → Cfg → World → Prop} {k : M.K} {σ : Cfg} {w : World} {n : Nat}
theorem Acts.lay (h : Acts H M Lay Q n k σ w) : Lay σ w := by
  cases n with
  | zero => exact h.elim
  | succ n => exact h.1
theorem Acts.acc {a : Acc} (h : Acts H M Lay Q n k σ w) (ha : M.obs k = .inl a) : ∃ n', n' < n ∧ H.St a (fun was σ' w' => Acts H M Lay Q n' (M.nxt k was) σ' w') σ w := by
  cases n with
  | zero => exact h.elim
  | succ n => exact ⟨n, Nat.lt_succ_self n, h.2.1 a ha⟩
theorem Acts.done {r : R} (h : Acts H M Lay Q n k σ w) (hr : M.obs k = .inr r) : Q r σ w := by
  cases n with
  | zero => exact h.elim
  | succ n => exact h.2.2 r hr
theorem Acts.mono {n' : Nat} (h : Acts H M Lay Q n k σ w) (hn : n ≤ n') (hl : ∀ σ w, Lay σ w → Lay' σ w) (hq : ∀ r σ w, Q r σ w → Q' r σ w) : Acts H M Lay' Q' n' k σ w := by
  induction n' generalizing n k σ w with
  | zero =>
    obtain rfl : n = 0 := by omega
    exact h
  | succ n' ih =>
    cases n with
    | zero => exact h.elim
    | succ n => exact ⟨hl _ _ h.1, fun a ha => H.mono (fun was σ' w' h' => ih h' (by omega)) (h.2.1 a ha), fun r hr => hq _ _ _ (h.2.2 r hr)⟩
end
end Go.Proofs.Ytcibnfjpagmdaaa
