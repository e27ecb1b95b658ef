/- Step, under a gate: the walk, for each kind of access. -/
import Derived.Test.YtcibnfjpagmdaaaStep
set_option linter.unusedSimpArgs false
set_option linter.unusedVariables false
set_option maxRecDepth 100000
set_option maxHeartbeats 8000000
namespace Go.Proofs.Ytcibnfjpagmdaaa
open Go.TX Go.Conc Go.RowKit Go.MapKept
variable {Fin : Machine → Trace → Prop} {C : Client} {A : GA} {j : Nat} {kap : Nat → C.K} {w : World} {σ : Cfg}

theorem step_3 {cc : Nat} {arg : Int} {new : Int} {m : Nat} {κ : C.K} {s : C.S} (hM : Mine Fin C m j A kap σ w) (hc : A.cells cc) (hfit : (⟨3, cc, arg, new⟩ : Acc).Fit) (hI : C.I (setAt kap j κ) s (A.p.put j (.stands ⟨3, cc, arg, new⟩)) A.own w) :
    CallsX (tokenJ Try.prog Fin) 140 #[.pointer (some ⟨A.tb j, 0, none⟩), .pointer (some ⟨cc, 0, none⟩), .int .i8 3, .int .i64 arg, .int .i64 new] σ w (StepR Fin C m j A ⟨3, cc, arg, new⟩ κ) (StopN Fin j (A.home j)) := by
  obtain ⟨gs, gm, os, out, rfl, h0, M, hj, hst, hne, B⟩ := hM
  have ht := M.thr j hj
  have c0 : w.cell? ⟨A.tb j, 0, none⟩ = some (.pointer (some ⟨A.R, 0, none⟩)) := by unfold World.cell?; rw [ht]; rfl
  have c1 : w.cell? ⟨A.tb j, 1, none⟩ = some (.int .i64 j) := by unfold World.cell?; rw [ht]; rfl
  have c13 : w.cell? ⟨A.tb j, 13, none⟩ = some (.bool false) := by unfold World.cell?; rw [ht]; simp [thrObj, thrCells, hne]
  refine callsX_body Try.func140 rfl fun c cs H HN => ?_
  simp only [Try.f140, Try.ntmps140, List.size_toArray, List.length_cons, List.length_nil, Nat.reduceAdd, Nat.reduceSub, Nat.zero_add, Array.replicate_succ, Array.replicate_zero, List.push_toArray, List.append_toArray, List.nil_append, List.cons_append, List.append_nil]
  replace H := Keep.mk H
  replace HN := Keep.mk HN
  replace M := Keep.mk M
  replace B := Keep.mk B
  replace hI := Keep.mk hI
  replace ht := Keep.mk ht
  replace hfit := Keep.mk hfit
  repeat (first
    | refine y_go rfl ?_
    | (refine y_region ?_; simp only [rg, Nat.reduceAdd, List.range, List.range.loop])
    | (refine y_nw rfl (by rfl) rfl (by exact nx rfl) (fun dd hS K hK => ?_); go_simp; refine hK _ _ _ ?_; clear hK K hS dd; simp only [recOf]; try walk_nrm)
    | (refine y_unwanted rfl (by rfl) ?_; try walk_nrm) | refine y_condT rfl ?_ | refine y_condF rfl ?_
    | refine y_block ?_ | refine y_label ?_ | refine y_ret ?_ | refine y_end ?_)
  refine y_callR rfl (by rfl) rfl rfl Try.func139 (by kernel_rfl) (by kernel_rfl) (live_on c0 c13) (by simp only [List.map_toArray, List.map_cons, List.map_nil] <;> rfl) ?_
  rintro _ σ'' w'' ⟨rfl, e2, e3⟩
  rw [e2, e3]
  clear e2 e3 w'' σ''
  walk_nrm
  repeat (first
    | refine y_go rfl ?_
    | (refine y_region ?_; simp only [rg, Nat.reduceAdd, List.range, List.range.loop])
    | (refine y_nw rfl (by rfl) rfl (by exact nx rfl) (fun dd hS K hK => ?_); go_simp; refine hK _ _ _ ?_; clear hK K hS dd; simp only [recOf]; try walk_nrm)
    | (refine y_unwanted rfl (by rfl) ?_; try walk_nrm) | refine y_condT rfl ?_ | refine y_condF rfl ?_
    | refine y_block ?_ | refine y_label ?_ | refine y_ret ?_ | refine y_end ?_)
  have Z := Bigger.alloc w (.cells #[.int .i64 0, .int .i8 0, .int .i64 0, .int .i64 0, .int .i64 0, .int .i64 0, .int .i64 0, .bool false] 194)
  have z0 := (heap_alloc w (.cells #[.int .i64 0, .int .i8 0, .int .i64 0, .int .i64 0, .int .i64 0, .int .i64 0, .int .i64 0, .bool false] 194)).1
  generalize w.alloc (.cells #[.int .i64 0, .int .i8 0, .int .i64 0, .int .i64 0, .int .i64 0, .int .i64 0, .int .i64 0, .bool false] 194) = wz at Z z0 ⊢
  obtain ⟨bx, hbxe⟩ : ∃ bx, bx = w.heap.size := ⟨_, rfl⟩
  rw [← hbxe] at z0 ⊢
  have hfx : (cfgOf A (some j) gs gm os out).FreeC bx 0 8 := Cfg.Free.cells (free_of M.out (fun i hi => by cases hi; exact hj) fun i hi => by
    obtain ⟨k1, h1⟩ := M.out.wkc i hi
    obtain ⟨k2, h2⟩ := M.out.sdc i hi
    have := lt_of_get h1
    have := lt_of_get h2
    have := lt_of_get (M.out.tcc i hi)
    have := lt_of_get (M.out.thr i hi)
    exact ⟨by omega, by omega, by omega, by omega⟩)
  replace z0 := Keep.mk z0
  replace hfx := Keep.mk hfx
  replace hbxe := Keep.mk hbxe
  refine y_storeC (vs := #[.int .i64 j, .int .i8 3, .int .i64 (-1), .int .i64 arg, .int .i64 new, .int .i64 0, .int .i64 0, .bool false]) rfl (by rfl) rfl rfl rfl rfl rfl z0.out (by first | kernel_rfl | rfl) (Nat.le_of_ble_eq_true rfl) (by simp [Value.oneCell']) hfx.out (fun wa Sa => ?_)
  try walk_nrm
  have hbx : wa.heap[bx]? = some (.cells ((⟨3, cc, arg, new⟩ : Acc).stand j).cells.toArray 194) := by
    rw [Sa.is]; simp [putAt, Acc.stand, Entry.cells]
  have Ba : Bigger w wa := ⟨by rw [Sa.size]; exact Z.size, fun b hb => (Sa.other b (by have := hbxe.out; omega)).trans (Z.old b hb)⟩
  have rbx := row8 (x0 := .int .i64 j) (x1 := .int .i8 3) (x2 := .int .i64 (-1)) (x3 := .int .i64 arg) (x4 := .int .i64 new) (x5 := .int .i64 0) (x6 := .int .i64 0) (x7 := .bool false) hbx
  clear Z z0 Sa hfx c0 c1 c13
  replace hbx := Keep.mk hbx
  replace Ba := Keep.mk Ba
  obtain ⟨q0, q1, q2, q3, q4, q5, q6, q7⟩ := rbx
  repeat (first
    | refine y_go rfl ?_
    | (refine y_region ?_; simp only [rg, Nat.reduceAdd, List.range, List.range.loop])
    | (refine y_nw rfl (by rfl) rfl (by exact nx rfl) (fun dd hS K hK => ?_); go_simp; refine hK _ _ _ ?_; clear hK K hS dd; simp only [recOf]; try walk_nrm)
    | (refine y_unwanted rfl (by rfl) ?_; try walk_nrm) | refine y_condT rfl ?_ | refine y_condF rfl ?_
    | refine y_block ?_ | refine y_label ?_ | refine y_ret ?_ | refine y_end ?_)
  refine y_enter (args := #[.pointer (some ⟨A.tb j, 0, none⟩), .pointer (some ⟨cc, 0, none⟩), .agg ((⟨3, cc, arg, new⟩ : Acc).stand j).cells.toArray]) rfl (by rfl) rfl rfl Try.func179 (by kernel_rfl) (by kernel_rfl) (by simp only [List.map_toArray, List.map_cons, List.map_nil] <;> rfl) ?_
  refine stands_core (a := ⟨3, cc, arg, new⟩) h0 (M.out.grown Ba.out.old) hj hst ?_
  clear q0 q1 q2 q3 q4 q5 q6 q7
  intro gj k wb w1 w2 Bb S1 S2 Qt Qs
  replace M := M.out; replace B := B.out; replace hI := hI.out; replace hbx := hbx.out; replace Ba := Ba.out; replace hbxe := hbxe.out; replace hfit := hfit.out; replace ht := ht.out
  have hnd : decide (A.p.st j = .ended) = false := by simpa using hne
  rw [hnd] at S1
  have htbx : A.tb j ≠ bx := by have := lt_of_get ht; omega
  have hap : A.logv.ownBlock ≠ some bx := fun h => by have := (row_ty M.logs h).2.1; omega
  have M2 : GMem (A.stood j ⟨3, cc, arg, new⟩ bx) none w2 := (GMem.stood M hj hst (Ba.trans Bb) S1 ((S1.other bx htbx.symm).trans (Bb.is hbx)) hap hc hfit).chan S2 (by
    obtain ⟨k2, h2⟩ := M.sdc j hj
    exact ⟨k2, (S1.other _ (ne_of_obj h2 ht (by simp [thrObj]))).trans ((Ba.trans Bb).is h2)⟩)
  rw [back_cfg (A' := A.stood j ⟨3, cc, arg, new⟩ bx) (s := .stands ⟨3, cc, arg, new⟩) h0 hj rfl rfl rfl rfl rfl rfl]
  have Bab := Ba.trans Bb
  have old2 : ∀ b, b < w.heap.size → b ≠ A.tb j → b ≠ A.sd j → w2.heap[b]? = w.heap[b]? := fun b hb h1 h2 => (S2.other b h2).trans ((S1.other b h1).trans (Bab.old b hb))
  have sz2 : w.heap.size ≤ w2.heap.size := by rw [S2.size, S1.size]; exact Bab.size
  refine B (A.stood j ⟨3, cc, arg, new⟩ bx) κ s gj w2 M2 ⟨⟨.stands ⟨3, cc, arg, new⟩, by simp, rfl⟩, rfl, rfl, rfl, rfl, rfl, rfl, rfl, rfl, rfl, rfl, fun i hi => setAt_ne _ _ hi, rfl, rfl, rfl, rfl, rfl, rfl, fun b hb => .inl hb⟩
    (C.stable hI sz2 fun b hb hn => ⟨old2 b hb (fun e => hn (e ▸ (M.owns.2.2.2.2.2.2.2.2 j hj).1)) (fun e => hn (e ▸ (M.owns.2.2.2.2.2.2.2.2 j hj).2.2.1)), fun h => h.elim hn fun e => by omega⟩) ?_
    ⟨sz2, fun b hb ho hg => old2 b hb (fun e => hg (.inr (.inr (.inl e)))) (fun e => hg (.inr (.inr (.inr (.inr (.inl e))))))⟩
  intro a' ha'
  obtain rfl : (⟨3, cc, arg, new⟩ : Acc) = a' := Phase.stands.inj ((setAt_same A.p.st j (.stands ⟨3, cc, arg, new⟩)).symm.trans ha')
  clear B hI hbx Ba Bb S1 S2 M2 Bab old2 sz2 ha' hap
  revert Qt Qs
  generalize hLe : (A.stood j ⟨3, cc, arg, new⟩ bx).lay j = L
  have L1 : A.tb j = L.tb := by rw [← hLe]; rfl
  have L2 : A.R = L.R := by rw [← hLe]; rfl
  have L3 : bx = L.ab := by rw [← hLe]; exact (setAt_same A.ab j bx).symm
  have L4 : A.cells = L.cells := by rw [← hLe]; rfl
  have L5 : A.tc j = L.tc := by rw [← hLe]; rfl
  have L6 : A.rc j = L.rc := by rw [← hLe]; rfl
  intro Qt Qs
  have HP : ∀ n, n ≤ m → Promise Fin C n j κ ⟨3, cc, arg, new⟩ L gj := by
    intro n hnm
    induction n with
    | zero =>
      intro A2 gs2 gm2 os2 out2 w3 hL h02 M2 hj2 hl2 hs2 BS
      have e1 : A.tb j = A2.tb j := by rw [L1, ← hL]; rfl
      have e2 : A.R = A2.R := by rw [L2, ← hL]; rfl
      have e4 : A.cells = A2.cells := by rw [L4, ← hL]; rfl
      have e5 : A.tc j = A2.tc j := by rw [L5, ← hL]; rfl
      have e6 : A.rc j = A2.rc j := by rw [L6, ← hL]; rfl
      have ht2 := M2.thr j hj2
      refine Qs _ _ (by rw [e1, e2]; exact M2.t0 hj2) (by rw [e2]; exact M2.r6.trans (by rw [hs2])) ?_
      exact y_leave_panic rfl rfl Try.func140 (HN.out _ _ _ ⟨rfl, A2, gs2, gm2, os2, out2, by unfold GA.home; rw [e1, e4, e5, e6], rfl, h02, M2, hj2, hl2, hs2, BS⟩)
    | succ n ih =>
      refine ⟨ih (Nat.le_of_succ_le hnm), ?_⟩
      intro A2 kap2 s2 gs2 gm2 os2 out2 w3 hL h02 M2 hj2 hs2 hst2 hpk hlog2 hk2 hI2 B2
      have e1 : A.tb j = A2.tb j := by rw [L1, ← hL]; rfl
      have e2 : A.R = A2.R := by rw [L2, ← hL]; rfl
      have e3 : bx = A2.ab j := by rw [L3, ← hL]; rfl
      have e4 : A.cells = A2.cells := by rw [L4, ← hL]; rfl
      have ht2 := M2.thr j hj2
      refine Qt _ _ (by rw [e1, e2]; exact M2.t0 hj2) (by rw [e2]; exact M2.r6.trans (by rw [hst2])) ?_
      clear Qt Qs ih
      rw [Frame.finish_at]
      walk_nrm
      show (tokenJ Try.prog Fin).Y _ _ _
      rw [e1, e3]
      have c0 := M2.t0 hj2
      have r1 := M2.r1
      have r2 := M2.r2
      obtain ⟨_, _, hcc, _, hab0⟩ := M2.stand j _ hj2 (by simp) hs2
      have hab : w3.heap[A2.ab j]? = some (.cells #[.int .i64 j, .int .i8 3, .int .i64 (-1), .int .i64 arg, .int .i64 new, .int .i64 0, .int .i64 0, .bool false] 194) := hab0 hst2
      have k1 : CellIs w3 cc (A2.p.cv cc) := M2.cell _ hcc
      have M3 := M2.under hj2
      have hfree : ∀ (b : Nat) (o : Obj), w3.heap[b]? = some o → (∀ x y z u v t, o ≠ .chan x y z u v t) → (∀ x y, o ≠ .cells x 33 y) → (∀ x y, o ≠ .cells x 205 y) → (cfgOf A2 (some j) gs2 gm2 os2 out2).Free (· = b) := fun b o hb n1 n2 n3 => free_of M3 (fun i hi => by cases hi; exact hj2) fun i hi => by
        obtain ⟨k1, h1⟩ := M2.wkc i hi
        obtain ⟨k2, h2⟩ := M2.sdc i hi
        exact ⟨ne_of_obj hb h1 (n1 _ _ _ _ _ _), ne_of_obj hb h2 (n1 _ _ _ _ _ _), ne_of_obj hb (M2.tcc i hi) (n2 _ _), ne_of_obj hb (M2.thr i hi) (n3 _ _)⟩
      have hfc : ∀ _ : Unit, (cfgOf A2 (some j) gs2 gm2 os2 out2).Free (· = cc) := fun _ => hfree _ _ k1.obj (by simp [cellObj]) (by simp [cellObj]) (by simp [cellObj])
      have hfa : ∀ lo hi, (cfgOf A2 (some j) gs2 gm2 os2 out2).FreeC (A2.ab j) lo hi := fun lo hi => Cfg.Free.cells (hfree _ _ hab (by simp) (by simp) (by simp))
      have ncc : A2.ab j ≠ cc := ne_of_obj hab k1.obj (by simp [cellObj])
      have ncab : ∀ x, A2.cells x → x ≠ A2.ab j := fun x hx => ne_of_obj (M2.cell x hx).obj hab (by simp [cellObj])
      have ntb : A2.tb j ≠ A2.ab j := ne_of_obj ht2 hab (by simp [thrObj])
      have nR : A2.R ≠ A2.ab j := ne_of_obj M2.runs hab (by simp [runObj])
      have nm : A2.mb ≠ A2.ab j := ne_of_obj M2.mapo hab (by simp)
      have ntc : A2.tb j ≠ cc := ne_of_obj ht2 k1.obj (by simp [thrObj, cellObj])
      have nRc : A2.R ≠ cc := ne_of_obj M2.runs k1.obj (by simp [runObj, cellObj])
      have nmc : A2.mb ≠ cc := ne_of_obj M2.mapo k1.obj (by simp [cellObj])
      have e5 : A.tc j = A2.tc j := by rw [L5, ← hL]; rfl
      have e6 : A.rc j = A2.rc j := by rw [L6, ← hL]; rfl
      have eHome := Keep.mk (show A2.home j = A.home j by unfold GA.home; rw [e1, e4, e5, e6])
      clear hab0 hLe L1 L2 L3 L4 L5 L6 e1 e2 e5 e6 M ht hnd htbx hbxe hL
      replace ncab := Keep.mk ncab
      replace hab := Keep.mk hab
      replace k1 := Keep.mk k1
      replace hfc := Keep.mk hfc
      replace hfa := Keep.mk hfa
      replace hfree := Keep.mk hfree
      replace M2 := Keep.mk M2
      replace M3 := Keep.mk M3
      replace hI2 := Keep.mk hI2
      replace B2 := Keep.mk B2
      replace ht2 := Keep.mk ht2
      replace hcc := Keep.mk hcc
      replace hs2 := Keep.mk hs2
      replace hpk := Keep.mk hpk
      replace hk2 := Keep.mk hk2
      repeat (first
        | refine y_go rfl ?_
        | (refine y_region ?_; simp only [rg, Nat.reduceAdd, List.range, List.range.loop])
        | (refine y_nw rfl (by rfl) rfl (by exact nx rfl) (fun dd hS K hK => ?_); go_simp; refine hK _ _ _ ?_; clear hK K hS dd; simp only [recOf]; try walk_nrm)
        | (refine y_unwanted rfl (by rfl) ?_; try walk_nrm) | refine y_condT rfl ?_ | refine y_condF rfl ?_
        | refine y_block ?_ | refine y_label ?_ | refine y_ret ?_ | refine y_end ?_)
      refine y_callR rfl (by rfl) rfl rfl Try.func141 (by kernel_rfl) (by kernel_rfl) (i64_load ⟨cc, 0, none⟩ (A2.p.cv cc) k1.out.v) (by simp only [List.map_toArray, List.map_cons, List.map_nil] <;> rfl) ?_
      rintro _ σ'' w'' ⟨rfl, e2, e3⟩
      rw [e2, e3]
      clear e2 e3 w'' σ''
      walk_nrm
      repeat (first
        | refine y_go rfl ?_
        | (refine y_region ?_; simp only [rg, Nat.reduceAdd, List.range, List.range.loop])
        | (refine y_nw rfl (by rfl) rfl (by exact nx rfl) (fun dd hS K hK => ?_); go_simp; refine hK _ _ _ ?_; clear hK K hS dd; simp only [recOf]; try walk_nrm)
        | (refine y_unwanted rfl (by rfl) ?_; try walk_nrm) | refine y_condT rfl ?_ | refine y_condF rfl ?_
        | refine y_block ?_ | refine y_label ?_ | refine y_ret ?_ | refine y_end ?_)
      refine y_storeC (vs := #[.int .i64 (A2.p.cv cc)]) rfl (by rfl) rfl rfl rfl rfl rfl hab.out (by first | kernel_rfl | rfl) (Nat.le_of_ble_eq_true rfl) (by simp [Value.oneCell']) (hfa.out _ _) (fun w4 S4 => ?_)
      try walk_nrm
      simp only [putAt, List.setIfInBounds_toArray, List.set_cons_succ, List.set_cons_zero] at S4
      replace hab := S4.is
      have k4 : CellIs w4 cc (A2.p.cv cc) := (S4.other _ ncc.symm).trans k1.out
      have R4 : ∀ b, b ≠ A2.ab j → b ≠ cc → w4.heap[b]? = w3.heap[b]? := fun b h1 _ => S4.other b h1
      have z4 : w4.heap.size = w3.heap.size := S4.size
      clear S4 k1
      replace hab := Keep.mk hab
      replace k4 := Keep.mk k4
      replace R4 := Keep.mk R4
      replace z4 := Keep.mk z4
      repeat (first
        | refine y_go rfl ?_
        | (refine y_region ?_; simp only [rg, Nat.reduceAdd, List.range, List.range.loop])
        | (refine y_nw rfl (by rfl) rfl (by exact nx rfl) (fun dd hS K hK => ?_); go_simp; refine hK _ _ _ ?_; clear hK K hS dd; simp only [recOf]; try walk_nrm)
        | (refine y_unwanted rfl (by rfl) ?_; try walk_nrm) | refine y_condT rfl ?_ | refine y_condF rfl ?_
        | refine y_block ?_ | refine y_label ?_ | refine y_ret ?_ | refine y_end ?_)
      refine y_callR rfl (by rfl) rfl rfl Try.func156 (by kernel_rfl) (by kernel_rfl) (num_cas k4.out (hfc.out ()) arg new) (by simp only [List.map_toArray, List.map_cons, List.map_nil] <;> rfl) ?_
      rintro _ _ w5 ⟨rfl, rfl, S5⟩
      walk_nrm
      have k5 : CellIs w5 cc (if A2.p.cv cc = arg then new else A2.p.cv cc) := S5.is
      replace hab : w5.heap[A2.ab j]? = _ := (S5.other _ ncc).trans hab.out
      have R5 : ∀ b, b ≠ A2.ab j → b ≠ cc → w5.heap[b]? = w3.heap[b]? := fun b h1 h2 => (S5.other b h2).trans (R4.out b h1 h2)
      have z5 : w5.heap.size = w3.heap.size := S5.size.trans z4.out
      clear S5
      replace hab := Keep.mk hab
      replace k5 := Keep.mk k5
      replace R5 := Keep.mk R5
      replace z5 := Keep.mk z5
      repeat (first
        | refine y_go rfl ?_
        | (refine y_region ?_; simp only [rg, Nat.reduceAdd, List.range, List.range.loop])
        | (refine y_nw rfl (by rfl) rfl (by exact nx rfl) (fun dd hS K hK => ?_); go_simp; refine hK _ _ _ ?_; clear hK K hS dd; simp only [recOf]; try walk_nrm)
        | (refine y_unwanted rfl (by rfl) ?_; try walk_nrm) | refine y_condT rfl ?_ | refine y_condF rfl ?_
        | refine y_block ?_ | refine y_label ?_ | refine y_ret ?_ | refine y_end ?_)
      refine y_storeC (vs := #[.bool (decide (A2.p.cv cc = arg))]) rfl (by rfl) rfl rfl rfl rfl rfl hab.out (by first | kernel_rfl | rfl) (Nat.le_of_ble_eq_true rfl) (by simp [Value.oneCell']) (hfa.out _ _) (fun w6 S6 => ?_)
      try walk_nrm
      simp only [putAt, List.setIfInBounds_toArray, List.set_cons_succ, List.set_cons_zero] at S6
      replace hab := S6.is
      have k6 : CellIs w6 cc (if A2.p.cv cc = arg then new else A2.p.cv cc) := (S6.other _ ncc.symm).trans k5.out
      have R6 : ∀ b, b ≠ A2.ab j → b ≠ cc → w6.heap[b]? = w3.heap[b]? := fun b h1 h2 => (S6.other b h1).trans (R5.out b h1 h2)
      have z6 : w6.heap.size = w3.heap.size := S6.size.trans z5.out
      clear S6 k5 R5 z5
      clear k4 R4 z4
      replace hab := Keep.mk hab
      replace k6 := Keep.mk k6
      replace R6 := Keep.mk R6
      replace z6 := Keep.mk z6
      repeat (first
        | refine y_go rfl ?_
        | (refine y_region ?_; simp only [rg, Nat.reduceAdd, List.range, List.range.loop])
        | (refine y_nw rfl (by rfl) rfl (by exact nx rfl) (fun dd hS K hK => ?_); go_simp; refine hK _ _ _ ?_; clear hK K hS dd; simp only [recOf]; try walk_nrm)
        | (refine y_unwanted rfl (by rfl) ?_; try walk_nrm) | refine y_condT rfl ?_ | refine y_condF rfl ?_
        | refine y_block ?_ | refine y_label ?_ | refine y_ret ?_ | refine y_end ?_)
      refine y_callR rfl (by rfl) rfl rfl Try.func141 (by kernel_rfl) (by kernel_rfl) (i64_load ⟨cc, 0, none⟩ _ k6.out.v) (by simp only [List.map_toArray, List.map_cons, List.map_nil] <;> rfl) ?_
      rintro _ σ'' w'' ⟨rfl, e2, e3⟩
      rw [e2, e3]
      clear e2 e3 w'' σ''
      walk_nrm
      repeat (first
        | refine y_go rfl ?_
        | (refine y_region ?_; simp only [rg, Nat.reduceAdd, List.range, List.range.loop])
        | (refine y_nw rfl (by rfl) rfl (by exact nx rfl) (fun dd hS K hK => ?_); go_simp; refine hK _ _ _ ?_; clear hK K hS dd; simp only [recOf]; try walk_nrm)
        | (refine y_unwanted rfl (by rfl) ?_; try walk_nrm) | refine y_condT rfl ?_ | refine y_condF rfl ?_
        | refine y_block ?_ | refine y_label ?_ | refine y_ret ?_ | refine y_end ?_)
      refine y_storeC (vs := #[.int .i64 ((⟨3, cc, arg, new⟩ : Acc).now (A2.p.cv cc))]) rfl (by rfl) rfl rfl rfl rfl rfl hab.out (by first | kernel_rfl | rfl) (Nat.le_of_ble_eq_true rfl) (by simp [Value.oneCell']) (hfa.out _ _) (fun w7 S7 => ?_)
      try walk_nrm
      simp only [putAt, List.setIfInBounds_toArray, List.set_cons_succ, List.set_cons_zero] at S7
      replace hab := S7.is
      have k7 : CellIs w7 cc ((⟨3, cc, arg, new⟩ : Acc).now (A2.p.cv cc)) := (S7.other _ ncc.symm).trans k6.out
      have R7 : ∀ b, b ≠ A2.ab j → b ≠ cc → w7.heap[b]? = w3.heap[b]? := fun b h1 h2 => (S7.other b h1).trans (R6.out b h1 h2)
      have z7 : w7.heap.size = w3.heap.size := S7.size.trans z6.out
      clear S7 k6 R6 z6
      have d0 : w7.cell? ⟨A2.tb j, 0, none⟩ = some (.pointer (some ⟨A2.R, 0, none⟩)) := (cell?_of_block (R7 _ ntb ntc)).trans c0
      have d1 : w7.cell? ⟨A2.R, 1, none⟩ = some (.map (some A2.mb)) := (cell?_of_block (R7 _ nR nRc)).trans r1
      have d2 : w7.cell? ⟨A2.R, 2, none⟩ = some A2.logv := (cell?_of_block (R7 _ nR nRc)).trans r2
      have hm7 : w7.heap[A2.mb]? = some (.map (entriesOf A2.p.cn) A2.p.cn.length) := (R7 _ nm nmc).trans M2.out.mapo
      have hcs : ∀ x ∈ A2.p.cn, ∃ v, CellIs w7 x v := fun x hx => by
        by_cases e : x = cc
        · subst e; exact ⟨_, k7⟩
        · have h1 := M2.out.cell x (M2.out.cnc x hx)
          exact ⟨_, h1.later (R7 x (ncab.out x (M2.out.cnc x hx)) e)⟩
      replace hab := Keep.mk hab
      replace k7 := Keep.mk k7
      replace R7 := Keep.mk R7
      replace z7 := Keep.mk z7
      replace hm7 := Keep.mk hm7
      replace hcs := Keep.mk hcs
      repeat (first
        | refine y_go rfl ?_
        | (refine y_region ?_; simp only [rg, Nat.reduceAdd, List.range, List.range.loop])
        | (refine y_nw rfl (by rfl) rfl (by exact nx rfl) (fun dd hS K hK => ?_); go_simp; refine hK _ _ _ ?_; clear hK K hS dd; simp only [recOf]; try walk_nrm)
        | (refine y_unwanted rfl (by rfl) ?_; try walk_nrm) | refine y_condT rfl ?_ | refine y_condF rfl ?_
        | refine y_block ?_ | refine y_label ?_ | refine y_ret ?_ | refine y_end ?_)
      refine y_lookup (v := .tuple #[.int .i64 (if cc ∈ A2.p.cn then (A2.p.cn.idxOf cc : Int) else 0), .bool (decide (cc ∈ A2.p.cn))]) rfl (by rfl) rfl rfl rfl rfl (fun d => run_lookupN (w := w7.at d) k7.out hcs.out hm7.out) ?_
      walk_nrm
      by_cases hmem : cc ∈ A2.p.cn
      · simp only [hmem, if_true, decide_true]
        have hadd : addCell A2.p.cn cc = A2.p.cn := addCell_in hmem
        have hm8 : w7.heap[A2.mb]? = some (.map (entriesOf (addCell A2.p.cn cc)) (addCell A2.p.cn cc).length) := by rw [hadd]; exact hm7.out
        have hidx : (A2.p.cn.idxOf cc : Int) = ((addCell A2.p.cn cc).idxOf cc : Int) := by rw [hadd]
        rw [hidx]
        clear hidx hadd hmem
        replace hm8 := Keep.mk hm8
        have R8 : Keep (∀ b, b ≠ A2.ab j → b ≠ cc → b ≠ A2.mb → w7.heap[b]? = w3.heap[b]?) := Keep.mk fun b h1 h2 _ => R7.out b h1 h2
        clear R7 hm7 hcs
        have k8 := k7; have z8 := z7
        clear k7 z7
        repeat (first
          | refine y_go rfl ?_
          | (refine y_region ?_; simp only [rg, Nat.reduceAdd, List.range, List.range.loop])
          | (refine y_nw rfl (by rfl) rfl (by exact nx rfl) (fun dd hS K hK => ?_); go_simp; refine hK _ _ _ ?_; clear hK K hS dd; simp only [recOf]; try walk_nrm)
          | (refine y_unwanted rfl (by rfl) ?_; try walk_nrm) | refine y_condT rfl ?_ | refine y_condF rfl ?_
          | refine y_block ?_ | refine y_label ?_ | refine y_ret ?_ | refine y_end ?_)
        -- the record's entry, the end
        refine y_storeC (vs := #[.int .i64 ((addCell A2.p.cn cc).idxOf cc : Int)]) rfl (by rfl) rfl rfl rfl rfl rfl hab.out (by first | kernel_rfl | rfl) (Nat.le_of_ble_eq_true rfl) (by simp [Value.oneCell']) (hfa.out _ _) (fun w9 S9 => ?_)
        try walk_nrm
        simp only [putAt, List.setIfInBounds_toArray, List.set_cons_succ, List.set_cons_zero] at S9
        have hab9 : w9.heap[A2.ab j]? = some (.cells ((⟨3, cc, arg, new⟩ : Acc).done j ((addCell A2.p.cn cc).idxOf cc) (A2.p.cv cc)).cells.toArray 194) := S9.is
        have R9 : ∀ b, b ≠ A2.ab j → b ≠ cc → b ≠ A2.mb → w9.heap[b]? = w3.heap[b]? := fun b h1 h2 h3 => (S9.other b h1).trans (R8.out b h1 h2 h3)
        have hm9 : w9.heap[A2.mb]? = some (.map (entriesOf (addCell A2.p.cn cc)) (addCell A2.p.cn cc).length) := (S9.other _ nm).trans hm8.out
        have k9 : CellIs w9 cc ((⟨3, cc, arg, new⟩ : Acc).now (A2.p.cv cc)) := (S9.other _ ncc.symm).trans k8.out
        have z9 : w9.heap.size = w3.heap.size := S9.size.trans z8.out
        clear S9 R8 hm8 k8 z8 hab d0 d1 d2
        have ntm : A2.tb j ≠ A2.mb := ne_of_obj ht2.out M2.out.mapo (by simp [thrObj])
        have nRm : A2.R ≠ A2.mb := ne_of_obj M2.out.runs M2.out.mapo (by simp [runObj])
        have rw9 : ∀ b, b < w9.heap.size → b < w3.heap.size := fun b h => by omega
        have hS0 : w9.cell? ⟨A2.tb j, 0, none⟩ = some (.pointer (some ⟨A2.R, 0, none⟩)) := (cell?_of_block (R9 _ ntb ntc ntm)).trans c0
        have hS2 : w9.cell? ⟨A2.R, 2, none⟩ = some A2.logv := (cell?_of_block (R9 _ nR nRc nRm)).trans r2
        have r9 := row8 (x0 := .int .i64 j) (x1 := .int .i8 3) (x2 := .int .i64 ((addCell A2.p.cn cc).idxOf cc : Int)) (x3 := .int .i64 arg) (x4 := .int .i64 new) (x5 := .int .i64 (A2.p.cv cc)) (x6 := .int .i64 ((⟨3, cc, arg, new⟩ : Acc).now (A2.p.cv cc))) (x7 := .bool ((⟨3, cc, arg, new⟩ : Acc).ok (A2.p.cv cc))) hab9
        have hSL : SLog (A2.tb j) A2.R (A2.ab j) A2.logv (.int .i64 j) (.int .i8 3) (.int .i64 ((addCell A2.p.cn cc).idxOf cc : Int)) (.int .i64 arg) (.int .i64 new) (.int .i64 (A2.p.cv cc)) (.int .i64 ((⟨3, cc, arg, new⟩ : Acc).now (A2.p.cv cc))) (.bool ((⟨3, cc, arg, new⟩ : Acc).ok (A2.p.cv cc))) w9 := ⟨hS0, hS2, r9⟩
        have hSLk := Keep.mk hSL
        replace hab9 := Keep.mk hab9
        replace R9 := Keep.mk R9
        replace hm9 := Keep.mk hm9
        replace k9 := Keep.mk k9
        replace z9 := Keep.mk z9
        replace rw9 := Keep.mk rw9
        repeat (first
          | refine y_go rfl ?_
          | (refine y_region ?_; simp only [rg, Nat.reduceAdd, List.range, List.range.loop])
          | (refine y_nw rfl (by rfl) rfl (by exact nx rfl) (fun dd hS K hK => ?_); go_simp; refine hK _ _ _ ?_; clear hK K hS dd; simp only [recOf]; try walk_nrm)
          | (refine y_unwanted rfl (by rfl) ?_; try walk_nrm) | refine y_condT rfl ?_ | refine y_condF rfl ?_
          | refine y_block ?_ | refine y_label ?_ | refine y_ret ?_ | refine y_end ?_)
        refine y_drawnQ (fun _ w' => SLog (A2.tb j) A2.R (A2.ab j) A2.logv (.int .i64 j) (.int .i8 3) (.int .i64 ((addCell A2.p.cn cc).idxOf cc : Int)) (.int .i64 arg) (.int .i64 new) (.int .i64 (A2.p.cv cc)) (.int .i64 ((⟨3, cc, arg, new⟩ : Acc).now (A2.p.cv cc))) (.bool ((⟨3, cc, arg, new⟩ : Acc).ok (A2.p.cv cc))) w') (fun j => j == 16) (by kernel_rfl) rfl ?_
        simp only [List.size_toArray, List.length_cons, List.length_nil, Nat.reduceAdd, Nat.reduceSub, Nat.zero_add, Array.replicate_succ, Array.replicate_zero, List.push_toArray, List.append_toArray, List.nil_append, List.cons_append, List.append_nil]
        first | (apply anyX_tW (i := 0) rfl; (focus rfl); (focus (exact nx rfl)); (focus (rintro σ' w' ⟨s8, s9, s0, s1, s2, s3, s4, s5, s6, s7⟩ d K hK; go_simp; exact hK)); (focus kernel_rfl); (focus (exact hSL))) | (refine anyX_tU (i := 0) rfl rfl (by kernel_rfl) (by exact hSL) ?_)
        try walk_nrm
        first | (apply anyX_tW (i := 1) rfl; (focus rfl); (focus (exact nx rfl)); (focus (rintro σ' w' ⟨s8, s9, s0, s1, s2, s3, s4, s5, s6, s7⟩ d K hK; go_simp; exact hK)); (focus kernel_rfl); (focus (exact hSL))) | (refine anyX_tU (i := 1) rfl rfl (by kernel_rfl) (by exact hSL) ?_)
        try walk_nrm
        first | (apply anyX_tW (i := 2) rfl; (focus rfl); (focus (exact nx rfl)); (focus (rintro σ' w' ⟨s8, s9, s0, s1, s2, s3, s4, s5, s6, s7⟩ d K hK; go_simp; exact hK)); (focus kernel_rfl); (focus (exact hSL))) | (refine anyX_tU (i := 2) rfl rfl (by kernel_rfl) (by exact hSL) ?_)
        try walk_nrm
        first | (apply anyX_tW (i := 3) rfl; (focus rfl); (focus (exact nx rfl)); (focus (rintro σ' w' ⟨s8, s9, s0, s1, s2, s3, s4, s5, s6, s7⟩ d K hK; go_simp; exact hK)); (focus kernel_rfl); (focus (exact hSL))) | (refine anyX_tU (i := 3) rfl rfl (by kernel_rfl) (by exact hSL) ?_)
        try walk_nrm
        first | (apply anyX_tW (i := 4) rfl; (focus rfl); (focus (exact nx rfl)); (focus (rintro σ' w' ⟨s8, s9, s0, s1, s2, s3, s4, s5, s6, s7⟩ d K hK; go_simp; exact hK)); (focus kernel_rfl); (focus (exact hSL))) | (refine anyX_tU (i := 4) rfl rfl (by kernel_rfl) (by exact hSL) ?_)
        try walk_nrm
        first | (apply anyX_tW (i := 5) rfl; (focus rfl); (focus (exact nx rfl)); (focus (rintro σ' w' ⟨s8, s9, s0, s1, s2, s3, s4, s5, s6, s7⟩ d K hK; go_simp; exact hK)); (focus kernel_rfl); (focus (exact hSL))) | (refine anyX_tU (i := 5) rfl rfl (by kernel_rfl) (by exact hSL) ?_)
        try walk_nrm
        first | (apply anyX_tW (i := 6) rfl; (focus rfl); (focus (exact nx rfl)); (focus (rintro σ' w' ⟨s8, s9, s0, s1, s2, s3, s4, s5, s6, s7⟩ d K hK; go_simp; exact hK)); (focus kernel_rfl); (focus (exact hSL))) | (refine anyX_tU (i := 6) rfl rfl (by kernel_rfl) (by exact hSL) ?_)
        try walk_nrm
        first | (apply anyX_tW (i := 7) rfl; (focus rfl); (focus (exact nx rfl)); (focus (rintro σ' w' ⟨s8, s9, s0, s1, s2, s3, s4, s5, s6, s7⟩ d K hK; go_simp; exact hK)); (focus kernel_rfl); (focus (exact hSL))) | (refine anyX_tU (i := 7) rfl rfl (by kernel_rfl) (by exact hSL) ?_)
        try walk_nrm
        first | (apply anyX_tW (i := 8) rfl; (focus rfl); (focus (exact nx rfl)); (focus (rintro σ' w' ⟨s8, s9, s0, s1, s2, s3, s4, s5, s6, s7⟩ d K hK; go_simp; exact hK)); (focus kernel_rfl); (focus (exact hSL))) | (refine anyX_tU (i := 8) rfl rfl (by kernel_rfl) (by exact hSL) ?_)
        try walk_nrm
        first | (apply anyX_tW (i := 9) rfl; (focus rfl); (focus (exact nx rfl)); (focus (rintro σ' w' ⟨s8, s9, s0, s1, s2, s3, s4, s5, s6, s7⟩ d K hK; go_simp; exact hK)); (focus kernel_rfl); (focus (exact hSL))) | (refine anyX_tU (i := 9) rfl rfl (by kernel_rfl) (by exact hSL) ?_)
        try walk_nrm
        first | (apply anyX_tW (i := 10) rfl; (focus rfl); (focus (exact nx rfl)); (focus (rintro σ' w' ⟨s8, s9, s0, s1, s2, s3, s4, s5, s6, s7⟩ d K hK; go_simp; exact hK)); (focus kernel_rfl); (focus (exact hSL))) | (refine anyX_tU (i := 10) rfl rfl (by kernel_rfl) (by exact hSL) ?_)
        try walk_nrm
        first | (apply anyX_tW (i := 11) rfl; (focus rfl); (focus (exact nx rfl)); (focus (rintro σ' w' ⟨s8, s9, s0, s1, s2, s3, s4, s5, s6, s7⟩ d K hK; go_simp; exact hK)); (focus kernel_rfl); (focus (exact hSL))) | (refine anyX_tU (i := 11) rfl rfl (by kernel_rfl) (by exact hSL) ?_)
        try walk_nrm
        have B10 := Bigger.alloc w9 (.cells #[.int .i64 j, .int .i8 3, .int .i64 ((addCell A2.p.cn cc).idxOf cc : Int), .int .i64 arg, .int .i64 new, .int .i64 (A2.p.cv cc), .int .i64 ((⟨3, cc, arg, new⟩ : Acc).now (A2.p.cv cc)), .bool ((⟨3, cc, arg, new⟩ : Acc).ok (A2.p.cv cc))] 194)
        refine anyX_one (i := 12) (by kernel_rfl) (opX_nw rfl (by rfl) (by exact nx rfl) (fun dd hS K' hK' => ?_))
        go_simp
        refine hK' _ _ _ ?_
        clear hK' K' hS dd
        refine ⟨fun _ => hSLk.out.big B10, ?_⟩
        try walk_nrm
        have n10 := cells_new w9 [.int .i64 j, .int .i8 3, .int .i64 ((addCell A2.p.cn cc).idxOf cc : Int), .int .i64 arg, .int .i64 new, .int .i64 (A2.p.cv cc), .int .i64 ((⟨3, cc, arg, new⟩ : Acc).now (A2.p.cv cc)), .bool ((⟨3, cc, arg, new⟩ : Acc).ok (A2.p.cv cc))] 194
        have z10 : (w9.alloc (.cells #[.int .i64 j, .int .i8 3, .int .i64 ((addCell A2.p.cn cc).idxOf cc : Int), .int .i64 arg, .int .i64 new, .int .i64 (A2.p.cv cc), .int .i64 ((⟨3, cc, arg, new⟩ : Acc).now (A2.p.cv cc)), .bool ((⟨3, cc, arg, new⟩ : Acc).ok (A2.p.cv cc))] 194)).heap.size = w9.heap.size + 1 := Array.size_push _
        generalize w9.alloc (.cells #[.int .i64 j, .int .i8 3, .int .i64 ((addCell A2.p.cn cc).idxOf cc : Int), .int .i64 arg, .int .i64 new, .int .i64 (A2.p.cv cc), .int .i64 ((⟨3, cc, arg, new⟩ : Acc).now (A2.p.cv cc)), .bool ((⟨3, cc, arg, new⟩ : Acc).ok (A2.p.cv cc))] 194) = w10 at n10 B10 z10 ⊢
        have nlog : ∀ {b : Nat} {o : Obj}, w3.heap[b]? = some o → (∀ x y, o ≠ .cells x 194 y) → A2.logv.ownBlock ≠ some b := fun hb n1 h => by
          obtain ⟨_, _, cur, hcur⟩ := row_ty M2.out.logs h
          exact ne_of_obj hb hcur (n1 _ _) rfl
        have nlab : A2.logv.ownBlock ≠ some (A2.ab j) := M2.out.apart.2.2 j _ hj2 (by simp) hs2.out hst2
        have ltlog : ∀ b, A2.logv.ownBlock = some b → b < w3.heap.size := fun b h => (row_ty M2.out.logs h).2.1
        have own10 : w10.ownsRow 0 194 8 A2.logv A2.p.log.length (flatLog A2.p.log) := row_later M2.out.logs fun b h => by
          refine (B10.old b (by have := ltlog b h; have := z9.out; omega)).trans (R9.out b (fun e => nlab (e ▸ h)) (fun e => ?_) (fun e => ?_))
          · exact nlog (M2.out.cell _ hcc.out).obj (by simp [cellObj]) (e ▸ h)
          · exact nlog M2.out.mapo (by simp) (e ▸ h)
        have hflog : (cfgOf A2 (some j) gs2 gm2 os2 out2).Free (fun c => some c = A2.logv.ownBlock) := fun i s hs => ⟨fun h => by
            obtain ⟨_, _, cur, hcur⟩ := row_ty M2.out.logs h.symm
            exact (hfree.out _ _ hcur (by simp) (by simp) (by simp) i s hs).1 rfl, fun p hp h => by
            obtain ⟨_, _, cur, hcur⟩ := row_ty M2.out.logs h.symm
            exact (hfree.out _ _ hcur (by simp) (by simp) (by simp) i s hs).2 p hp rfl⟩
        obtain ⟨i0, hi, hz0, hz1, hz2⟩ := info_parts (P := Try.prog) (e := 194) (z := .agg #[.int .i64 0, .int .i8 0, .int .i64 0, .int .i64 0, .int .i64 0, .int .i64 0, .int .i64 0, .bool false]) (size := 8) (bytes := 64) (by kernel_rfl)
        refine anyX_one (i := 13) (by kernel_rfl) (opX_append (size := 8) (bytes := 64) rfl (by rfl) rfl Try.underlying41 hi hz0 hz1 hz2 rfl (by decide) 0 rfl own10 rfl rfl n10 (fun x hx => by simp at hx; rcases hx with rfl | rfl | rfl | rfl | rfl | rfl | rfl | rfl <;> rfl) (by unfold maxLen; omega) (by omega) (Nat.zero_le _) hflog ?_)
        intro logv' w11 own11 g11 _ b11
        have old11 : ∀ b, b < w3.heap.size → A2.logv.ownBlock ≠ some b → w11.heap[b]? = w9.heap[b]? := fun b hb hl => (g11.block b (by have := z9.out; omega) (fun h => hl h.symm)).trans (B10.old b (by have := z9.out; omega))
        have hSL11 := hSLk.out.old (old11 _ (lt_of_get ht2.out) (nlog ht2.out (by simp [thrObj]))) (old11 _ (lt_of_get M2.out.runs) (nlog M2.out.runs (by simp [runObj]))) (old11 _ (by have := lt_of_get hab9.out; have := z9.out; omega) nlab)
        have hR11 : w11.heap[A2.R]? = some (.cells #[A2.thv, .map (some A2.mb), A2.logv, A2.wentv, A2.readyv, A2.fellv, .bool A2.stops] 200) := (old11 _ (lt_of_get M2.out.runs) (nlog M2.out.runs (by simp [runObj]))).trans ((R9.out _ nR nRc nRm).trans M2.out.runs)
        have sz11 : w3.heap.size ≤ w11.heap.size := by have := g11.size; have := z9.out; omega
        refine ⟨fun _ => hSL11, ?_⟩
        walk_nrm
        refine anyX_one (i := 14) (by kernel_rfl) (opX_nw rfl (by rfl) (by exact nx rfl) (fun dd hS K' hK' => ?_))
        go_simp
        refine hK' _ _ _ ?_
        clear hK' K' hS dd
        refine ⟨fun _ => hSL11, ?_⟩
        try walk_nrm
        refine anyX_one (i := 15) (by kernel_rfl) (opX_nw rfl (by rfl) (by exact nx rfl) (fun dd hS K' hK' => ?_))
        go_simp
        refine hK' _ _ _ ?_
        clear hK' K' hS dd
        refine ⟨fun _ => hSL11, ?_⟩
        try walk_nrm
        obtain ⟨bo, cp, rfl⟩ := row_slice own11
        refine anyX_one (i := 16) (by kernel_rfl) (opX_storeC (vs := #[.slice bo (A2.p.log.length + 1) cp]) rfl (by rfl) rfl rfl rfl rfl hR11 (by first | kernel_rfl | rfl) (Nat.le_of_ble_eq_true rfl) (by simp [Value.oneCell']) (Cfg.Free.cells (hfree.out _ _ M2.out.runs (by simp [runObj]) (by simp [runObj]) (by simp [runObj]))) (fun w12 S12 => ?_))
        refine ⟨fun h => absurd h (by simp), ?_⟩
        try walk_nrm
        simp only [putAt, List.setIfInBounds_toArray, List.set_cons_succ, List.set_cons_zero] at S12
        refine anyX_end (by kernel_rfl) ?_
        have nRl : ∀ b, A2.R = b → A2.logv.ownBlock ≠ some b := fun b e => e ▸ nlog M2.out.runs (by simp [runObj])
        have own12 : w12.ownsRow 0 194 8 (.slice bo (A2.p.log.length + 1) cp) (A2.p.log.length + 1) (flatLog A2.p.log ++ ((⟨3, cc, arg, new⟩ : Acc).done j ((addCell A2.p.cn cc).idxOf cc) (A2.p.cv cc)).cells) := row_later own11 fun b h => S12.other b fun e => by
          obtain ⟨_, _, cur, hcur⟩ := row_ty own11 h
          exact ne_of_obj hcur hR11 (by simp) e
        have hnew : ∀ b, (Value.slice bo (A2.p.log.length + 1) cp).ownBlock = some b → A2.logv.ownBlock = some b ∨ w3.heap.size ≤ b := fun b h => by
          rcases b11 with e | e
          · exact .inl (e ▸ h)
          · rw [e] at h; have := Option.some.inj h; have := z9.out; exact .inr (by omega)
        have old12 : ∀ b, b < w3.heap.size → b ≠ cc → b ≠ A2.mb → b ≠ A2.R → b ≠ A2.ab j → A2.logv.ownBlock ≠ some b → w12.heap[b]? = w3.heap[b]? := fun b hb h1 h2 h3 h4 h5 => (S12.other b h3).trans ((old11 b hb h5).trans (R9.out b h4 h1 h2))
        have sz12 : w3.heap.size ≤ w12.heap.size := by rw [S12.size]; exact sz11
        have hab12 : w12.heap[A2.ab j]? = _ := (S12.other _ nR.symm).trans ((old11 _ (by have := lt_of_get hab9.out; have := z9.out; omega) nlab).trans hab9.out)
        have k12 : CellIs w12 cc ((⟨3, cc, arg, new⟩ : Acc).now (A2.p.cv cc)) := (S12.other _ nRc.symm).trans ((old11 cc (by have := k9.out.lt; have := z9.out; omega) (nlog (M2.out.cell _ hcc.out).obj (by simp [cellObj]))).trans k9.out)
        have hm12 : w12.heap[A2.mb]? = _ := (S12.other _ nRm.symm).trans ((old11 _ (lt_of_get M2.out.mapo) (nlog M2.out.mapo (by simp))).trans hm9.out)
        have M12 : GMem (A2.logged j ⟨3, cc, arg, new⟩ (.slice bo (A2.p.log.length + 1) cp)) (some j) w12 := GMem.accd M3.out hj2 hcc.out hlog2 sz12 k12 hm12 S12.is own12 hnew ⟨#[.int .i8 3, .int .i64 (-1), .int .i64 arg, .int .i64 new, .int .i64 0, .int .i64 0, .bool false], by rw [(M2.out.stand j _ hj2 (by simp) hs2.out).2.2.2.2 hst2]; simp [Acc.stand, Entry.cells]⟩ nlab fun b hb _ h1 h2 h3 h4 h5 => old12 b hb h1 h2 h3 h4 h5
        obtain ⟨oR, omb, oc, _, ol, _, _, _, oj⟩ := M2.out.owns
        have oab := (oj j hj2).2.2.2.2.2.2 _ (by simp) hs2.out
        have I12 : C.I kap2 s2 A2.p (A2.logged j ⟨3, cc, arg, new⟩ (.slice bo (A2.p.log.length + 1) cp)).own w12 := C.stable hI2.out sz12 fun b hb hn => ⟨old12 b hb (fun e => hn (e ▸ oc _ hcc.out)) (fun e => hn (e ▸ omb)) (fun e => hn (e ▸ oR)) (fun e => hn (e ▸ oab)) (fun h => hn (ol b h)), fun h => h.elim hn fun h => (hnew b h).elim (fun h => hn (ol b h)) fun h => by omega⟩
        have BB := B2.out.logged (wf := w12) sz12 hnew fun b hb _ hg => old12 b hb (fun e => hg (.inr (.inr (.inr (.inr (.inr (.inl (e ▸ hcc.out)))))))) (fun e => hg (.inr (.inl e))) (fun e => hg (.inl e)) (fun e => hg (.inr (.inr (.inr (.inr (.inr (.inr (.inr e)))))))) (fun h => hg (.inr (.inr (.inr (.inr (.inr (.inr (.inl h))))))))
        have r12 := row8 (x0 := .int .i64 j) (x1 := .int .i8 3) (x2 := .int .i64 ((addCell A2.p.cn cc).idxOf cc : Int)) (x3 := .int .i64 arg) (x4 := .int .i64 new) (x5 := .int .i64 (A2.p.cv cc)) (x6 := .int .i64 ((⟨3, cc, arg, new⟩ : Acc).now (A2.p.cv cc))) (x7 := .bool ((⟨3, cc, arg, new⟩ : Acc).ok (A2.p.cv cc))) hab12
        clear old12 hnew hab12 own12 hm12 k12 S12 old11 own11 hR11 g11 hSL hSLk hSL11 hflog own10 nlog ltlog n10 B10 hS0 hS2 r9 hi hz0 hz1 hz2
        replace M12 := Keep.mk M12
        replace I12 := Keep.mk I12
        replace BB := Keep.mk BB
        replace oR := Keep.mk oR
        replace omb := Keep.mk omb
        replace oc := Keep.mk oc
        replace ol := Keep.mk ol
        replace oj := Keep.mk oj
        replace oab := Keep.mk oab
        replace sz12 := Keep.mk sz12
        replace nRl := Keep.mk nRl
        replace b11 := Keep.mk b11
        replace rw9 := Keep.mk rw9
        repeat (first
          | refine y_go rfl ?_
          | (refine y_region ?_; simp only [rg, Nat.reduceAdd, List.range, List.range.loop])
          | (refine y_nw rfl (by rfl) rfl (by exact nx rfl) (fun dd hS K hK => ?_); go_simp; refine hK _ _ _ ?_; clear hK K hS dd; simp only [recOf]; try walk_nrm)
          | (refine y_unwanted rfl (by rfl) ?_; try walk_nrm) | refine y_condT rfl ?_ | refine y_condF rfl ?_
          | refine y_block ?_ | refine y_label ?_ | refine y_ret ?_ | refine y_end ?_)
        refine y_drawnQ (fun _ w' => Row8 w' (A2.ab j) (.int .i64 j) (.int .i8 3) (.int .i64 ((addCell A2.p.cn cc).idxOf cc : Int)) (.int .i64 arg) (.int .i64 new) (.int .i64 (A2.p.cv cc)) (.int .i64 ((⟨3, cc, arg, new⟩ : Acc).now (A2.p.cv cc))) (.bool ((⟨3, cc, arg, new⟩ : Acc).ok (A2.p.cv cc)))) (fun _ => false) (by kernel_rfl) rfl ?_
        simp only [List.size_toArray, List.length_cons, List.length_nil, Nat.reduceAdd, Nat.reduceSub, Nat.zero_add, Array.replicate_succ, Array.replicate_zero, List.push_toArray, List.append_toArray, List.nil_append, List.cons_append, List.append_nil]
        first | (apply anyX_tW (i := 0) rfl; (focus rfl); (focus (exact nx rfl)); (focus (rintro σ' w' ⟨s0, s1, s2, s3, s4, s5, s6, s7⟩ d K hK; go_simp; exact hK)); (focus kernel_rfl); (focus (exact r12))) | (refine anyX_tU (i := 0) rfl rfl (by kernel_rfl) (by exact r12) ?_)
        try walk_nrm
        first | (apply anyX_tW (i := 1) rfl; (focus rfl); (focus (exact nx rfl)); (focus (rintro σ' w' ⟨s0, s1, s2, s3, s4, s5, s6, s7⟩ d K hK; go_simp; exact hK)); (focus kernel_rfl); (focus (exact r12))) | (refine anyX_tU (i := 1) rfl rfl (by kernel_rfl) (by exact r12) ?_)
        try walk_nrm
        first | (apply anyX_tW (i := 2) rfl; (focus rfl); (focus (exact nx rfl)); (focus (rintro σ' w' ⟨s0, s1, s2, s3, s4, s5, s6, s7⟩ d K hK; go_simp; exact hK)); (focus kernel_rfl); (focus (exact r12))) | (refine anyX_tU (i := 2) rfl rfl (by kernel_rfl) (by exact r12) ?_)
        try walk_nrm
        first | (apply anyX_tW (i := 3) rfl; (focus rfl); (focus (exact nx rfl)); (focus (rintro σ' w' ⟨s0, s1, s2, s3, s4, s5, s6, s7⟩ d K hK; go_simp; exact hK)); (focus kernel_rfl); (focus (exact r12))) | (refine anyX_tU (i := 3) rfl rfl (by kernel_rfl) (by exact r12) ?_)
        try walk_nrm
        first | (apply anyX_tW (i := 4) rfl; (focus rfl); (focus (exact nx rfl)); (focus (rintro σ' w' ⟨s0, s1, s2, s3, s4, s5, s6, s7⟩ d K hK; go_simp; exact hK)); (focus kernel_rfl); (focus (exact r12))) | (refine anyX_tU (i := 4) rfl rfl (by kernel_rfl) (by exact r12) ?_)
        try walk_nrm
        first | (apply anyX_tW (i := 5) rfl; (focus rfl); (focus (exact nx rfl)); (focus (rintro σ' w' ⟨s0, s1, s2, s3, s4, s5, s6, s7⟩ d K hK; go_simp; exact hK)); (focus kernel_rfl); (focus (exact r12))) | (refine anyX_tU (i := 5) rfl rfl (by kernel_rfl) (by exact r12) ?_)
        try walk_nrm
        first | (apply anyX_tW (i := 6) rfl; (focus rfl); (focus (exact nx rfl)); (focus (rintro σ' w' ⟨s0, s1, s2, s3, s4, s5, s6, s7⟩ d K hK; go_simp; exact hK)); (focus kernel_rfl); (focus (exact r12))) | (refine anyX_tU (i := 6) rfl rfl (by kernel_rfl) (by exact r12) ?_)
        try walk_nrm
        first | (apply anyX_tW (i := 7) rfl; (focus rfl); (focus (exact nx rfl)); (focus (rintro σ' w' ⟨s0, s1, s2, s3, s4, s5, s6, s7⟩ d K hK; go_simp; exact hK)); (focus kernel_rfl); (focus (exact r12))) | (refine anyX_tU (i := 7) rfl rfl (by kernel_rfl) (by exact r12) ?_)
        try walk_nrm
        first | (apply anyX_tW (i := 8) rfl; (focus rfl); (focus (exact nx rfl)); (focus (rintro σ' w' ⟨s0, s1, s2, s3, s4, s5, s6, s7⟩ d K hK; go_simp; exact hK)); (focus kernel_rfl); (focus (exact r12))) | (refine anyX_tU (i := 8) rfl rfl (by kernel_rfl) (by exact r12) ?_)
        try walk_nrm
        refine anyX_end (by kernel_rfl) ?_
        repeat (first
          | refine y_go rfl ?_
          | (refine y_region ?_; simp only [rg, Nat.reduceAdd, List.range, List.range.loop])
          | (refine y_nw rfl (by rfl) rfl (by exact nx rfl) (fun dd hS K hK => ?_); go_simp; refine hK _ _ _ ?_; clear hK K hS dd; simp only [recOf]; try walk_nrm)
          | (refine y_unwanted rfl (by rfl) ?_; try walk_nrm) | refine y_condT rfl ?_ | refine y_condF rfl ?_
          | refine y_block ?_ | refine y_label ?_ | refine y_ret ?_ | refine y_end ?_)
        refine y_leave rfl rfl Try.func140 (resultsC_tmp3 rfl _) (H.out _ _ _ ?_)
        exact ⟨A2.p, kap2, s2, _, n, hnm, hk2.out, hs2.out, hpk.out, I12.out, rfl, eHome.out, ⟨gs2, gm2, os2, out2, rfl, h02, M12.out, hj2, hst2, by show A2.p.st j ≠ .ended; rw [hs2.out]; simp, BB.out⟩, rfl⟩
      · simp only [hmem, if_false, decide_false]
        have hadd : addCell A2.p.cn cc = A2.p.cn ++ [cc] := addCell_out hmem
        replace hadd := Keep.mk hadd
        repeat (first
          | refine y_go rfl ?_
          | (refine y_region ?_; simp only [rg, Nat.reduceAdd, List.range, List.range.loop])
          | (refine y_nw rfl (by rfl) rfl (by exact nx rfl) (fun dd hS K hK => ?_); go_simp; refine hK _ _ _ ?_; clear hK K hS dd; simp only [recOf]; try walk_nrm)
          | (refine y_unwanted rfl (by rfl) ?_; try walk_nrm) | refine y_condT rfl ?_ | refine y_condF rfl ?_
          | refine y_block ?_ | refine y_label ?_ | refine y_ret ?_ | refine y_end ?_)
        refine y_lenMap rfl (by rfl) rfl rfl rfl ⟨_, _, Try.underlying197⟩ hm7.out ?_
        rw [entries_size]
        walk_nrm
        repeat (first
          | refine y_go rfl ?_
          | (refine y_region ?_; simp only [rg, Nat.reduceAdd, List.range, List.range.loop])
          | (refine y_nw rfl (by rfl) rfl (by exact nx rfl) (fun dd hS K hK => ?_); go_simp; refine hK _ _ _ ?_; clear hK K hS dd; simp only [recOf]; try walk_nrm)
          | (refine y_unwanted rfl (by rfl) ?_; try walk_nrm) | refine y_condT rfl ?_ | refine y_condF rfl ?_
          | refine y_block ?_ | refine y_label ?_ | refine y_ret ?_ | refine y_end ?_)
        refine y_mapUpdate (w' := { w7 with heap := w7.heap.setIfInBounds A2.mb (.map (entriesOf (A2.p.cn ++ [cc])) (A2.p.cn ++ [cc]).length) }) rfl (by rfl) rfl rfl rfl rfl rfl hm7.out trivial (fun d => run_mapUpdateN (w := w7.at d) k7.out hcs.out hm7.out hmem) (hfree.out _ _ M2.out.mapo (by simp) (by simp) (by simp)) ?_
        walk_nrm
        have S8 := setB_put (o := .map (entriesOf (A2.p.cn ++ [cc])) (A2.p.cn ++ [cc]).length) (lt_of_get hm7.out)
        generalize { w7 with heap := w7.heap.setIfInBounds A2.mb (.map (entriesOf (A2.p.cn ++ [cc])) (A2.p.cn ++ [cc]).length) } = w8 at S8 ⊢
        have hm8 : w8.heap[A2.mb]? = some (.map (entriesOf (addCell A2.p.cn cc)) (addCell A2.p.cn cc).length) := by rw [hadd.out]; exact S8.is
        have hidx : (A2.p.cn.length : Int) = ((addCell A2.p.cn cc).idxOf cc : Int) := by rw [hadd.out, idx_out hmem]
        rw [hidx]
        have R8 : ∀ b, b ≠ A2.ab j → b ≠ cc → b ≠ A2.mb → w8.heap[b]? = w3.heap[b]? := fun b h1 h2 h3 => (S8.other b h3).trans (R7.out b h1 h2)
        have k8 : CellIs w8 cc ((⟨3, cc, arg, new⟩ : Acc).now (A2.p.cv cc)) := (S8.other _ nmc.symm).trans k7.out
        have z8 : w8.heap.size = w3.heap.size := S8.size.trans z7.out
        replace hab := (S8.other _ nm.symm).trans hab.out
        clear hidx hadd hmem S8 k7 R7 z7 hm7 hcs
        replace hm8 := Keep.mk hm8
        replace R8 := Keep.mk R8
        replace k8 := Keep.mk k8
        replace z8 := Keep.mk z8
        replace hab := Keep.mk hab
        repeat (first
          | refine y_go rfl ?_
          | (refine y_region ?_; simp only [rg, Nat.reduceAdd, List.range, List.range.loop])
          | (refine y_nw rfl (by rfl) rfl (by exact nx rfl) (fun dd hS K hK => ?_); go_simp; refine hK _ _ _ ?_; clear hK K hS dd; simp only [recOf]; try walk_nrm)
          | (refine y_unwanted rfl (by rfl) ?_; try walk_nrm) | refine y_condT rfl ?_ | refine y_condF rfl ?_
          | refine y_block ?_ | refine y_label ?_ | refine y_ret ?_ | refine y_end ?_)
        -- the record's entry, the end
        refine y_storeC (vs := #[.int .i64 ((addCell A2.p.cn cc).idxOf cc : Int)]) rfl (by rfl) rfl rfl rfl rfl rfl hab.out (by first | kernel_rfl | rfl) (Nat.le_of_ble_eq_true rfl) (by simp [Value.oneCell']) (hfa.out _ _) (fun w9 S9 => ?_)
        try walk_nrm
        simp only [putAt, List.setIfInBounds_toArray, List.set_cons_succ, List.set_cons_zero] at S9
        have hab9 : w9.heap[A2.ab j]? = some (.cells ((⟨3, cc, arg, new⟩ : Acc).done j ((addCell A2.p.cn cc).idxOf cc) (A2.p.cv cc)).cells.toArray 194) := S9.is
        have R9 : ∀ b, b ≠ A2.ab j → b ≠ cc → b ≠ A2.mb → w9.heap[b]? = w3.heap[b]? := fun b h1 h2 h3 => (S9.other b h1).trans (R8.out b h1 h2 h3)
        have hm9 : w9.heap[A2.mb]? = some (.map (entriesOf (addCell A2.p.cn cc)) (addCell A2.p.cn cc).length) := (S9.other _ nm).trans hm8.out
        have k9 : CellIs w9 cc ((⟨3, cc, arg, new⟩ : Acc).now (A2.p.cv cc)) := (S9.other _ ncc.symm).trans k8.out
        have z9 : w9.heap.size = w3.heap.size := S9.size.trans z8.out
        clear S9 R8 hm8 k8 z8 hab d0 d1 d2
        have ntm : A2.tb j ≠ A2.mb := ne_of_obj ht2.out M2.out.mapo (by simp [thrObj])
        have nRm : A2.R ≠ A2.mb := ne_of_obj M2.out.runs M2.out.mapo (by simp [runObj])
        have rw9 : ∀ b, b < w9.heap.size → b < w3.heap.size := fun b h => by omega
        have hS0 : w9.cell? ⟨A2.tb j, 0, none⟩ = some (.pointer (some ⟨A2.R, 0, none⟩)) := (cell?_of_block (R9 _ ntb ntc ntm)).trans c0
        have hS2 : w9.cell? ⟨A2.R, 2, none⟩ = some A2.logv := (cell?_of_block (R9 _ nR nRc nRm)).trans r2
        have r9 := row8 (x0 := .int .i64 j) (x1 := .int .i8 3) (x2 := .int .i64 ((addCell A2.p.cn cc).idxOf cc : Int)) (x3 := .int .i64 arg) (x4 := .int .i64 new) (x5 := .int .i64 (A2.p.cv cc)) (x6 := .int .i64 ((⟨3, cc, arg, new⟩ : Acc).now (A2.p.cv cc))) (x7 := .bool ((⟨3, cc, arg, new⟩ : Acc).ok (A2.p.cv cc))) hab9
        have hSL : SLog (A2.tb j) A2.R (A2.ab j) A2.logv (.int .i64 j) (.int .i8 3) (.int .i64 ((addCell A2.p.cn cc).idxOf cc : Int)) (.int .i64 arg) (.int .i64 new) (.int .i64 (A2.p.cv cc)) (.int .i64 ((⟨3, cc, arg, new⟩ : Acc).now (A2.p.cv cc))) (.bool ((⟨3, cc, arg, new⟩ : Acc).ok (A2.p.cv cc))) w9 := ⟨hS0, hS2, r9⟩
        have hSLk := Keep.mk hSL
        replace hab9 := Keep.mk hab9
        replace R9 := Keep.mk R9
        replace hm9 := Keep.mk hm9
        replace k9 := Keep.mk k9
        replace z9 := Keep.mk z9
        replace rw9 := Keep.mk rw9
        repeat (first
          | refine y_go rfl ?_
          | (refine y_region ?_; simp only [rg, Nat.reduceAdd, List.range, List.range.loop])
          | (refine y_nw rfl (by rfl) rfl (by exact nx rfl) (fun dd hS K hK => ?_); go_simp; refine hK _ _ _ ?_; clear hK K hS dd; simp only [recOf]; try walk_nrm)
          | (refine y_unwanted rfl (by rfl) ?_; try walk_nrm) | refine y_condT rfl ?_ | refine y_condF rfl ?_
          | refine y_block ?_ | refine y_label ?_ | refine y_ret ?_ | refine y_end ?_)
        refine y_drawnQ (fun _ w' => SLog (A2.tb j) A2.R (A2.ab j) A2.logv (.int .i64 j) (.int .i8 3) (.int .i64 ((addCell A2.p.cn cc).idxOf cc : Int)) (.int .i64 arg) (.int .i64 new) (.int .i64 (A2.p.cv cc)) (.int .i64 ((⟨3, cc, arg, new⟩ : Acc).now (A2.p.cv cc))) (.bool ((⟨3, cc, arg, new⟩ : Acc).ok (A2.p.cv cc))) w') (fun j => j == 16) (by kernel_rfl) rfl ?_
        simp only [List.size_toArray, List.length_cons, List.length_nil, Nat.reduceAdd, Nat.reduceSub, Nat.zero_add, Array.replicate_succ, Array.replicate_zero, List.push_toArray, List.append_toArray, List.nil_append, List.cons_append, List.append_nil]
        first | (apply anyX_tW (i := 0) rfl; (focus rfl); (focus (exact nx rfl)); (focus (rintro σ' w' ⟨s8, s9, s0, s1, s2, s3, s4, s5, s6, s7⟩ d K hK; go_simp; exact hK)); (focus kernel_rfl); (focus (exact hSL))) | (refine anyX_tU (i := 0) rfl rfl (by kernel_rfl) (by exact hSL) ?_)
        try walk_nrm
        first | (apply anyX_tW (i := 1) rfl; (focus rfl); (focus (exact nx rfl)); (focus (rintro σ' w' ⟨s8, s9, s0, s1, s2, s3, s4, s5, s6, s7⟩ d K hK; go_simp; exact hK)); (focus kernel_rfl); (focus (exact hSL))) | (refine anyX_tU (i := 1) rfl rfl (by kernel_rfl) (by exact hSL) ?_)
        try walk_nrm
        first | (apply anyX_tW (i := 2) rfl; (focus rfl); (focus (exact nx rfl)); (focus (rintro σ' w' ⟨s8, s9, s0, s1, s2, s3, s4, s5, s6, s7⟩ d K hK; go_simp; exact hK)); (focus kernel_rfl); (focus (exact hSL))) | (refine anyX_tU (i := 2) rfl rfl (by kernel_rfl) (by exact hSL) ?_)
        try walk_nrm
        first | (apply anyX_tW (i := 3) rfl; (focus rfl); (focus (exact nx rfl)); (focus (rintro σ' w' ⟨s8, s9, s0, s1, s2, s3, s4, s5, s6, s7⟩ d K hK; go_simp; exact hK)); (focus kernel_rfl); (focus (exact hSL))) | (refine anyX_tU (i := 3) rfl rfl (by kernel_rfl) (by exact hSL) ?_)
        try walk_nrm
        first | (apply anyX_tW (i := 4) rfl; (focus rfl); (focus (exact nx rfl)); (focus (rintro σ' w' ⟨s8, s9, s0, s1, s2, s3, s4, s5, s6, s7⟩ d K hK; go_simp; exact hK)); (focus kernel_rfl); (focus (exact hSL))) | (refine anyX_tU (i := 4) rfl rfl (by kernel_rfl) (by exact hSL) ?_)
        try walk_nrm
        first | (apply anyX_tW (i := 5) rfl; (focus rfl); (focus (exact nx rfl)); (focus (rintro σ' w' ⟨s8, s9, s0, s1, s2, s3, s4, s5, s6, s7⟩ d K hK; go_simp; exact hK)); (focus kernel_rfl); (focus (exact hSL))) | (refine anyX_tU (i := 5) rfl rfl (by kernel_rfl) (by exact hSL) ?_)
        try walk_nrm
        first | (apply anyX_tW (i := 6) rfl; (focus rfl); (focus (exact nx rfl)); (focus (rintro σ' w' ⟨s8, s9, s0, s1, s2, s3, s4, s5, s6, s7⟩ d K hK; go_simp; exact hK)); (focus kernel_rfl); (focus (exact hSL))) | (refine anyX_tU (i := 6) rfl rfl (by kernel_rfl) (by exact hSL) ?_)
        try walk_nrm
        first | (apply anyX_tW (i := 7) rfl; (focus rfl); (focus (exact nx rfl)); (focus (rintro σ' w' ⟨s8, s9, s0, s1, s2, s3, s4, s5, s6, s7⟩ d K hK; go_simp; exact hK)); (focus kernel_rfl); (focus (exact hSL))) | (refine anyX_tU (i := 7) rfl rfl (by kernel_rfl) (by exact hSL) ?_)
        try walk_nrm
        first | (apply anyX_tW (i := 8) rfl; (focus rfl); (focus (exact nx rfl)); (focus (rintro σ' w' ⟨s8, s9, s0, s1, s2, s3, s4, s5, s6, s7⟩ d K hK; go_simp; exact hK)); (focus kernel_rfl); (focus (exact hSL))) | (refine anyX_tU (i := 8) rfl rfl (by kernel_rfl) (by exact hSL) ?_)
        try walk_nrm
        first | (apply anyX_tW (i := 9) rfl; (focus rfl); (focus (exact nx rfl)); (focus (rintro σ' w' ⟨s8, s9, s0, s1, s2, s3, s4, s5, s6, s7⟩ d K hK; go_simp; exact hK)); (focus kernel_rfl); (focus (exact hSL))) | (refine anyX_tU (i := 9) rfl rfl (by kernel_rfl) (by exact hSL) ?_)
        try walk_nrm
        first | (apply anyX_tW (i := 10) rfl; (focus rfl); (focus (exact nx rfl)); (focus (rintro σ' w' ⟨s8, s9, s0, s1, s2, s3, s4, s5, s6, s7⟩ d K hK; go_simp; exact hK)); (focus kernel_rfl); (focus (exact hSL))) | (refine anyX_tU (i := 10) rfl rfl (by kernel_rfl) (by exact hSL) ?_)
        try walk_nrm
        first | (apply anyX_tW (i := 11) rfl; (focus rfl); (focus (exact nx rfl)); (focus (rintro σ' w' ⟨s8, s9, s0, s1, s2, s3, s4, s5, s6, s7⟩ d K hK; go_simp; exact hK)); (focus kernel_rfl); (focus (exact hSL))) | (refine anyX_tU (i := 11) rfl rfl (by kernel_rfl) (by exact hSL) ?_)
        try walk_nrm
        have B10 := Bigger.alloc w9 (.cells #[.int .i64 j, .int .i8 3, .int .i64 ((addCell A2.p.cn cc).idxOf cc : Int), .int .i64 arg, .int .i64 new, .int .i64 (A2.p.cv cc), .int .i64 ((⟨3, cc, arg, new⟩ : Acc).now (A2.p.cv cc)), .bool ((⟨3, cc, arg, new⟩ : Acc).ok (A2.p.cv cc))] 194)
        refine anyX_one (i := 12) (by kernel_rfl) (opX_nw rfl (by rfl) (by exact nx rfl) (fun dd hS K' hK' => ?_))
        go_simp
        refine hK' _ _ _ ?_
        clear hK' K' hS dd
        refine ⟨fun _ => hSLk.out.big B10, ?_⟩
        try walk_nrm
        have n10 := cells_new w9 [.int .i64 j, .int .i8 3, .int .i64 ((addCell A2.p.cn cc).idxOf cc : Int), .int .i64 arg, .int .i64 new, .int .i64 (A2.p.cv cc), .int .i64 ((⟨3, cc, arg, new⟩ : Acc).now (A2.p.cv cc)), .bool ((⟨3, cc, arg, new⟩ : Acc).ok (A2.p.cv cc))] 194
        have z10 : (w9.alloc (.cells #[.int .i64 j, .int .i8 3, .int .i64 ((addCell A2.p.cn cc).idxOf cc : Int), .int .i64 arg, .int .i64 new, .int .i64 (A2.p.cv cc), .int .i64 ((⟨3, cc, arg, new⟩ : Acc).now (A2.p.cv cc)), .bool ((⟨3, cc, arg, new⟩ : Acc).ok (A2.p.cv cc))] 194)).heap.size = w9.heap.size + 1 := Array.size_push _
        generalize w9.alloc (.cells #[.int .i64 j, .int .i8 3, .int .i64 ((addCell A2.p.cn cc).idxOf cc : Int), .int .i64 arg, .int .i64 new, .int .i64 (A2.p.cv cc), .int .i64 ((⟨3, cc, arg, new⟩ : Acc).now (A2.p.cv cc)), .bool ((⟨3, cc, arg, new⟩ : Acc).ok (A2.p.cv cc))] 194) = w10 at n10 B10 z10 ⊢
        have nlog : ∀ {b : Nat} {o : Obj}, w3.heap[b]? = some o → (∀ x y, o ≠ .cells x 194 y) → A2.logv.ownBlock ≠ some b := fun hb n1 h => by
          obtain ⟨_, _, cur, hcur⟩ := row_ty M2.out.logs h
          exact ne_of_obj hb hcur (n1 _ _) rfl
        have nlab : A2.logv.ownBlock ≠ some (A2.ab j) := M2.out.apart.2.2 j _ hj2 (by simp) hs2.out hst2
        have ltlog : ∀ b, A2.logv.ownBlock = some b → b < w3.heap.size := fun b h => (row_ty M2.out.logs h).2.1
        have own10 : w10.ownsRow 0 194 8 A2.logv A2.p.log.length (flatLog A2.p.log) := row_later M2.out.logs fun b h => by
          refine (B10.old b (by have := ltlog b h; have := z9.out; omega)).trans (R9.out b (fun e => nlab (e ▸ h)) (fun e => ?_) (fun e => ?_))
          · exact nlog (M2.out.cell _ hcc.out).obj (by simp [cellObj]) (e ▸ h)
          · exact nlog M2.out.mapo (by simp) (e ▸ h)
        have hflog : (cfgOf A2 (some j) gs2 gm2 os2 out2).Free (fun c => some c = A2.logv.ownBlock) := fun i s hs => ⟨fun h => by
            obtain ⟨_, _, cur, hcur⟩ := row_ty M2.out.logs h.symm
            exact (hfree.out _ _ hcur (by simp) (by simp) (by simp) i s hs).1 rfl, fun p hp h => by
            obtain ⟨_, _, cur, hcur⟩ := row_ty M2.out.logs h.symm
            exact (hfree.out _ _ hcur (by simp) (by simp) (by simp) i s hs).2 p hp rfl⟩
        obtain ⟨i0, hi, hz0, hz1, hz2⟩ := info_parts (P := Try.prog) (e := 194) (z := .agg #[.int .i64 0, .int .i8 0, .int .i64 0, .int .i64 0, .int .i64 0, .int .i64 0, .int .i64 0, .bool false]) (size := 8) (bytes := 64) (by kernel_rfl)
        refine anyX_one (i := 13) (by kernel_rfl) (opX_append (size := 8) (bytes := 64) rfl (by rfl) rfl Try.underlying41 hi hz0 hz1 hz2 rfl (by decide) 0 rfl own10 rfl rfl n10 (fun x hx => by simp at hx; rcases hx with rfl | rfl | rfl | rfl | rfl | rfl | rfl | rfl <;> rfl) (by unfold maxLen; omega) (by omega) (Nat.zero_le _) hflog ?_)
        intro logv' w11 own11 g11 _ b11
        have old11 : ∀ b, b < w3.heap.size → A2.logv.ownBlock ≠ some b → w11.heap[b]? = w9.heap[b]? := fun b hb hl => (g11.block b (by have := z9.out; omega) (fun h => hl h.symm)).trans (B10.old b (by have := z9.out; omega))
        have hSL11 := hSLk.out.old (old11 _ (lt_of_get ht2.out) (nlog ht2.out (by simp [thrObj]))) (old11 _ (lt_of_get M2.out.runs) (nlog M2.out.runs (by simp [runObj]))) (old11 _ (by have := lt_of_get hab9.out; have := z9.out; omega) nlab)
        have hR11 : w11.heap[A2.R]? = some (.cells #[A2.thv, .map (some A2.mb), A2.logv, A2.wentv, A2.readyv, A2.fellv, .bool A2.stops] 200) := (old11 _ (lt_of_get M2.out.runs) (nlog M2.out.runs (by simp [runObj]))).trans ((R9.out _ nR nRc nRm).trans M2.out.runs)
        have sz11 : w3.heap.size ≤ w11.heap.size := by have := g11.size; have := z9.out; omega
        refine ⟨fun _ => hSL11, ?_⟩
        walk_nrm
        refine anyX_one (i := 14) (by kernel_rfl) (opX_nw rfl (by rfl) (by exact nx rfl) (fun dd hS K' hK' => ?_))
        go_simp
        refine hK' _ _ _ ?_
        clear hK' K' hS dd
        refine ⟨fun _ => hSL11, ?_⟩
        try walk_nrm
        refine anyX_one (i := 15) (by kernel_rfl) (opX_nw rfl (by rfl) (by exact nx rfl) (fun dd hS K' hK' => ?_))
        go_simp
        refine hK' _ _ _ ?_
        clear hK' K' hS dd
        refine ⟨fun _ => hSL11, ?_⟩
        try walk_nrm
        obtain ⟨bo, cp, rfl⟩ := row_slice own11
        refine anyX_one (i := 16) (by kernel_rfl) (opX_storeC (vs := #[.slice bo (A2.p.log.length + 1) cp]) rfl (by rfl) rfl rfl rfl rfl hR11 (by first | kernel_rfl | rfl) (Nat.le_of_ble_eq_true rfl) (by simp [Value.oneCell']) (Cfg.Free.cells (hfree.out _ _ M2.out.runs (by simp [runObj]) (by simp [runObj]) (by simp [runObj]))) (fun w12 S12 => ?_))
        refine ⟨fun h => absurd h (by simp), ?_⟩
        try walk_nrm
        simp only [putAt, List.setIfInBounds_toArray, List.set_cons_succ, List.set_cons_zero] at S12
        refine anyX_end (by kernel_rfl) ?_
        have nRl : ∀ b, A2.R = b → A2.logv.ownBlock ≠ some b := fun b e => e ▸ nlog M2.out.runs (by simp [runObj])
        have own12 : w12.ownsRow 0 194 8 (.slice bo (A2.p.log.length + 1) cp) (A2.p.log.length + 1) (flatLog A2.p.log ++ ((⟨3, cc, arg, new⟩ : Acc).done j ((addCell A2.p.cn cc).idxOf cc) (A2.p.cv cc)).cells) := row_later own11 fun b h => S12.other b fun e => by
          obtain ⟨_, _, cur, hcur⟩ := row_ty own11 h
          exact ne_of_obj hcur hR11 (by simp) e
        have hnew : ∀ b, (Value.slice bo (A2.p.log.length + 1) cp).ownBlock = some b → A2.logv.ownBlock = some b ∨ w3.heap.size ≤ b := fun b h => by
          rcases b11 with e | e
          · exact .inl (e ▸ h)
          · rw [e] at h; have := Option.some.inj h; have := z9.out; exact .inr (by omega)
        have old12 : ∀ b, b < w3.heap.size → b ≠ cc → b ≠ A2.mb → b ≠ A2.R → b ≠ A2.ab j → A2.logv.ownBlock ≠ some b → w12.heap[b]? = w3.heap[b]? := fun b hb h1 h2 h3 h4 h5 => (S12.other b h3).trans ((old11 b hb h5).trans (R9.out b h4 h1 h2))
        have sz12 : w3.heap.size ≤ w12.heap.size := by rw [S12.size]; exact sz11
        have hab12 : w12.heap[A2.ab j]? = _ := (S12.other _ nR.symm).trans ((old11 _ (by have := lt_of_get hab9.out; have := z9.out; omega) nlab).trans hab9.out)
        have k12 : CellIs w12 cc ((⟨3, cc, arg, new⟩ : Acc).now (A2.p.cv cc)) := (S12.other _ nRc.symm).trans ((old11 cc (by have := k9.out.lt; have := z9.out; omega) (nlog (M2.out.cell _ hcc.out).obj (by simp [cellObj]))).trans k9.out)
        have hm12 : w12.heap[A2.mb]? = _ := (S12.other _ nRm.symm).trans ((old11 _ (lt_of_get M2.out.mapo) (nlog M2.out.mapo (by simp))).trans hm9.out)
        have M12 : GMem (A2.logged j ⟨3, cc, arg, new⟩ (.slice bo (A2.p.log.length + 1) cp)) (some j) w12 := GMem.accd M3.out hj2 hcc.out hlog2 sz12 k12 hm12 S12.is own12 hnew ⟨#[.int .i8 3, .int .i64 (-1), .int .i64 arg, .int .i64 new, .int .i64 0, .int .i64 0, .bool false], by rw [(M2.out.stand j _ hj2 (by simp) hs2.out).2.2.2.2 hst2]; simp [Acc.stand, Entry.cells]⟩ nlab fun b hb _ h1 h2 h3 h4 h5 => old12 b hb h1 h2 h3 h4 h5
        obtain ⟨oR, omb, oc, _, ol, _, _, _, oj⟩ := M2.out.owns
        have oab := (oj j hj2).2.2.2.2.2.2 _ (by simp) hs2.out
        have I12 : C.I kap2 s2 A2.p (A2.logged j ⟨3, cc, arg, new⟩ (.slice bo (A2.p.log.length + 1) cp)).own w12 := C.stable hI2.out sz12 fun b hb hn => ⟨old12 b hb (fun e => hn (e ▸ oc _ hcc.out)) (fun e => hn (e ▸ omb)) (fun e => hn (e ▸ oR)) (fun e => hn (e ▸ oab)) (fun h => hn (ol b h)), fun h => h.elim hn fun h => (hnew b h).elim (fun h => hn (ol b h)) fun h => by omega⟩
        have BB := B2.out.logged (wf := w12) sz12 hnew fun b hb _ hg => old12 b hb (fun e => hg (.inr (.inr (.inr (.inr (.inr (.inl (e ▸ hcc.out)))))))) (fun e => hg (.inr (.inl e))) (fun e => hg (.inl e)) (fun e => hg (.inr (.inr (.inr (.inr (.inr (.inr (.inr e)))))))) (fun h => hg (.inr (.inr (.inr (.inr (.inr (.inr (.inl h))))))))
        have r12 := row8 (x0 := .int .i64 j) (x1 := .int .i8 3) (x2 := .int .i64 ((addCell A2.p.cn cc).idxOf cc : Int)) (x3 := .int .i64 arg) (x4 := .int .i64 new) (x5 := .int .i64 (A2.p.cv cc)) (x6 := .int .i64 ((⟨3, cc, arg, new⟩ : Acc).now (A2.p.cv cc))) (x7 := .bool ((⟨3, cc, arg, new⟩ : Acc).ok (A2.p.cv cc))) hab12
        clear old12 hnew hab12 own12 hm12 k12 S12 old11 own11 hR11 g11 hSL hSLk hSL11 hflog own10 nlog ltlog n10 B10 hS0 hS2 r9 hi hz0 hz1 hz2
        replace M12 := Keep.mk M12
        replace I12 := Keep.mk I12
        replace BB := Keep.mk BB
        replace oR := Keep.mk oR
        replace omb := Keep.mk omb
        replace oc := Keep.mk oc
        replace ol := Keep.mk ol
        replace oj := Keep.mk oj
        replace oab := Keep.mk oab
        replace sz12 := Keep.mk sz12
        replace nRl := Keep.mk nRl
        replace b11 := Keep.mk b11
        replace rw9 := Keep.mk rw9
        repeat (first
          | refine y_go rfl ?_
          | (refine y_region ?_; simp only [rg, Nat.reduceAdd, List.range, List.range.loop])
          | (refine y_nw rfl (by rfl) rfl (by exact nx rfl) (fun dd hS K hK => ?_); go_simp; refine hK _ _ _ ?_; clear hK K hS dd; simp only [recOf]; try walk_nrm)
          | (refine y_unwanted rfl (by rfl) ?_; try walk_nrm) | refine y_condT rfl ?_ | refine y_condF rfl ?_
          | refine y_block ?_ | refine y_label ?_ | refine y_ret ?_ | refine y_end ?_)
        refine y_drawnQ (fun _ w' => Row8 w' (A2.ab j) (.int .i64 j) (.int .i8 3) (.int .i64 ((addCell A2.p.cn cc).idxOf cc : Int)) (.int .i64 arg) (.int .i64 new) (.int .i64 (A2.p.cv cc)) (.int .i64 ((⟨3, cc, arg, new⟩ : Acc).now (A2.p.cv cc))) (.bool ((⟨3, cc, arg, new⟩ : Acc).ok (A2.p.cv cc)))) (fun _ => false) (by kernel_rfl) rfl ?_
        simp only [List.size_toArray, List.length_cons, List.length_nil, Nat.reduceAdd, Nat.reduceSub, Nat.zero_add, Array.replicate_succ, Array.replicate_zero, List.push_toArray, List.append_toArray, List.nil_append, List.cons_append, List.append_nil]
        first | (apply anyX_tW (i := 0) rfl; (focus rfl); (focus (exact nx rfl)); (focus (rintro σ' w' ⟨s0, s1, s2, s3, s4, s5, s6, s7⟩ d K hK; go_simp; exact hK)); (focus kernel_rfl); (focus (exact r12))) | (refine anyX_tU (i := 0) rfl rfl (by kernel_rfl) (by exact r12) ?_)
        try walk_nrm
        first | (apply anyX_tW (i := 1) rfl; (focus rfl); (focus (exact nx rfl)); (focus (rintro σ' w' ⟨s0, s1, s2, s3, s4, s5, s6, s7⟩ d K hK; go_simp; exact hK)); (focus kernel_rfl); (focus (exact r12))) | (refine anyX_tU (i := 1) rfl rfl (by kernel_rfl) (by exact r12) ?_)
        try walk_nrm
        first | (apply anyX_tW (i := 2) rfl; (focus rfl); (focus (exact nx rfl)); (focus (rintro σ' w' ⟨s0, s1, s2, s3, s4, s5, s6, s7⟩ d K hK; go_simp; exact hK)); (focus kernel_rfl); (focus (exact r12))) | (refine anyX_tU (i := 2) rfl rfl (by kernel_rfl) (by exact r12) ?_)
        try walk_nrm
        first | (apply anyX_tW (i := 3) rfl; (focus rfl); (focus (exact nx rfl)); (focus (rintro σ' w' ⟨s0, s1, s2, s3, s4, s5, s6, s7⟩ d K hK; go_simp; exact hK)); (focus kernel_rfl); (focus (exact r12))) | (refine anyX_tU (i := 3) rfl rfl (by kernel_rfl) (by exact r12) ?_)
        try walk_nrm
        first | (apply anyX_tW (i := 4) rfl; (focus rfl); (focus (exact nx rfl)); (focus (rintro σ' w' ⟨s0, s1, s2, s3, s4, s5, s6, s7⟩ d K hK; go_simp; exact hK)); (focus kernel_rfl); (focus (exact r12))) | (refine anyX_tU (i := 4) rfl rfl (by kernel_rfl) (by exact r12) ?_)
        try walk_nrm
        first | (apply anyX_tW (i := 5) rfl; (focus rfl); (focus (exact nx rfl)); (focus (rintro σ' w' ⟨s0, s1, s2, s3, s4, s5, s6, s7⟩ d K hK; go_simp; exact hK)); (focus kernel_rfl); (focus (exact r12))) | (refine anyX_tU (i := 5) rfl rfl (by kernel_rfl) (by exact r12) ?_)
        try walk_nrm
        first | (apply anyX_tW (i := 6) rfl; (focus rfl); (focus (exact nx rfl)); (focus (rintro σ' w' ⟨s0, s1, s2, s3, s4, s5, s6, s7⟩ d K hK; go_simp; exact hK)); (focus kernel_rfl); (focus (exact r12))) | (refine anyX_tU (i := 6) rfl rfl (by kernel_rfl) (by exact r12) ?_)
        try walk_nrm
        first | (apply anyX_tW (i := 7) rfl; (focus rfl); (focus (exact nx rfl)); (focus (rintro σ' w' ⟨s0, s1, s2, s3, s4, s5, s6, s7⟩ d K hK; go_simp; exact hK)); (focus kernel_rfl); (focus (exact r12))) | (refine anyX_tU (i := 7) rfl rfl (by kernel_rfl) (by exact r12) ?_)
        try walk_nrm
        first | (apply anyX_tW (i := 8) rfl; (focus rfl); (focus (exact nx rfl)); (focus (rintro σ' w' ⟨s0, s1, s2, s3, s4, s5, s6, s7⟩ d K hK; go_simp; exact hK)); (focus kernel_rfl); (focus (exact r12))) | (refine anyX_tU (i := 8) rfl rfl (by kernel_rfl) (by exact r12) ?_)
        try walk_nrm
        refine anyX_end (by kernel_rfl) ?_
        repeat (first
          | refine y_go rfl ?_
          | (refine y_region ?_; simp only [rg, Nat.reduceAdd, List.range, List.range.loop])
          | (refine y_nw rfl (by rfl) rfl (by exact nx rfl) (fun dd hS K hK => ?_); go_simp; refine hK _ _ _ ?_; clear hK K hS dd; simp only [recOf]; try walk_nrm)
          | (refine y_unwanted rfl (by rfl) ?_; try walk_nrm) | refine y_condT rfl ?_ | refine y_condF rfl ?_
          | refine y_block ?_ | refine y_label ?_ | refine y_ret ?_ | refine y_end ?_)
        refine y_leave rfl rfl Try.func140 (resultsC_tmp3 rfl _) (H.out _ _ _ ?_)
        exact ⟨A2.p, kap2, s2, _, n, hnm, hk2.out, hs2.out, hpk.out, I12.out, rfl, eHome.out, ⟨gs2, gm2, os2, out2, rfl, h02, M12.out, hj2, hst2, by show A2.p.st j ≠ .ended; rw [hs2.out]; simp, BB.out⟩, rfl⟩
  exact HP m (Nat.le_refl m)

theorem step_4 {cc : Nat} {arg : Int} {m : Nat} {κ : C.K} {s : C.S} (hM : Mine Fin C m j A kap σ w) (hc : A.cells cc) (hfit : (⟨4, cc, arg, 0⟩ : Acc).Fit) (hI : C.I (setAt kap j κ) s (A.p.put j (.stands ⟨4, cc, arg, 0⟩)) A.own w) :
    CallsX (tokenJ Try.prog Fin) 140 #[.pointer (some ⟨A.tb j, 0, none⟩), .pointer (some ⟨cc, 0, none⟩), .int .i8 4, .int .i64 arg, .int .i64 0] σ w (StepR Fin C m j A ⟨4, cc, arg, 0⟩ κ) (StopN Fin j (A.home j)) := by
  obtain ⟨gs, gm, os, out, rfl, h0, M, hj, hst, hne, B⟩ := hM
  have ht := M.thr j hj
  have c0 : w.cell? ⟨A.tb j, 0, none⟩ = some (.pointer (some ⟨A.R, 0, none⟩)) := by unfold World.cell?; rw [ht]; rfl
  have c1 : w.cell? ⟨A.tb j, 1, none⟩ = some (.int .i64 j) := by unfold World.cell?; rw [ht]; rfl
  have c13 : w.cell? ⟨A.tb j, 13, none⟩ = some (.bool false) := by unfold World.cell?; rw [ht]; simp [thrObj, thrCells, hne]
  refine callsX_body Try.func140 rfl fun c cs H HN => ?_
  simp only [Try.f140, Try.ntmps140, List.size_toArray, List.length_cons, List.length_nil, Nat.reduceAdd, Nat.reduceSub, Nat.zero_add, Array.replicate_succ, Array.replicate_zero, List.push_toArray, List.append_toArray, List.nil_append, List.cons_append, List.append_nil]
  replace H := Keep.mk H
  replace HN := Keep.mk HN
  replace M := Keep.mk M
  replace B := Keep.mk B
  replace hI := Keep.mk hI
  replace ht := Keep.mk ht
  replace hfit := Keep.mk hfit
  repeat (first
    | refine y_go rfl ?_
    | (refine y_region ?_; simp only [rg, Nat.reduceAdd, List.range, List.range.loop])
    | (refine y_nw rfl (by rfl) rfl (by exact nx rfl) (fun dd hS K hK => ?_); go_simp; refine hK _ _ _ ?_; clear hK K hS dd; simp only [recOf]; try walk_nrm)
    | (refine y_unwanted rfl (by rfl) ?_; try walk_nrm) | refine y_condT rfl ?_ | refine y_condF rfl ?_
    | refine y_block ?_ | refine y_label ?_ | refine y_ret ?_ | refine y_end ?_)
  refine y_callR rfl (by rfl) rfl rfl Try.func139 (by kernel_rfl) (by kernel_rfl) (live_on c0 c13) (by simp only [List.map_toArray, List.map_cons, List.map_nil] <;> rfl) ?_
  rintro _ σ'' w'' ⟨rfl, e2, e3⟩
  rw [e2, e3]
  clear e2 e3 w'' σ''
  walk_nrm
  repeat (first
    | refine y_go rfl ?_
    | (refine y_region ?_; simp only [rg, Nat.reduceAdd, List.range, List.range.loop])
    | (refine y_nw rfl (by rfl) rfl (by exact nx rfl) (fun dd hS K hK => ?_); go_simp; refine hK _ _ _ ?_; clear hK K hS dd; simp only [recOf]; try walk_nrm)
    | (refine y_unwanted rfl (by rfl) ?_; try walk_nrm) | refine y_condT rfl ?_ | refine y_condF rfl ?_
    | refine y_block ?_ | refine y_label ?_ | refine y_ret ?_ | refine y_end ?_)
  have Z := Bigger.alloc w (.cells #[.int .i64 0, .int .i8 0, .int .i64 0, .int .i64 0, .int .i64 0, .int .i64 0, .int .i64 0, .bool false] 194)
  have z0 := (heap_alloc w (.cells #[.int .i64 0, .int .i8 0, .int .i64 0, .int .i64 0, .int .i64 0, .int .i64 0, .int .i64 0, .bool false] 194)).1
  generalize w.alloc (.cells #[.int .i64 0, .int .i8 0, .int .i64 0, .int .i64 0, .int .i64 0, .int .i64 0, .int .i64 0, .bool false] 194) = wz at Z z0 ⊢
  obtain ⟨bx, hbxe⟩ : ∃ bx, bx = w.heap.size := ⟨_, rfl⟩
  rw [← hbxe] at z0 ⊢
  have hfx : (cfgOf A (some j) gs gm os out).FreeC bx 0 8 := Cfg.Free.cells (free_of M.out (fun i hi => by cases hi; exact hj) fun i hi => by
    obtain ⟨k1, h1⟩ := M.out.wkc i hi
    obtain ⟨k2, h2⟩ := M.out.sdc i hi
    have := lt_of_get h1
    have := lt_of_get h2
    have := lt_of_get (M.out.tcc i hi)
    have := lt_of_get (M.out.thr i hi)
    exact ⟨by omega, by omega, by omega, by omega⟩)
  replace z0 := Keep.mk z0
  replace hfx := Keep.mk hfx
  replace hbxe := Keep.mk hbxe
  refine y_storeC (vs := #[.int .i64 j, .int .i8 4, .int .i64 (-1), .int .i64 arg, .int .i64 0, .int .i64 0, .int .i64 0, .bool false]) rfl (by rfl) rfl rfl rfl rfl rfl z0.out (by first | kernel_rfl | rfl) (Nat.le_of_ble_eq_true rfl) (by simp [Value.oneCell']) hfx.out (fun wa Sa => ?_)
  try walk_nrm
  have hbx : wa.heap[bx]? = some (.cells ((⟨4, cc, arg, 0⟩ : Acc).stand j).cells.toArray 194) := by
    rw [Sa.is]; simp [putAt, Acc.stand, Entry.cells]
  have Ba : Bigger w wa := ⟨by rw [Sa.size]; exact Z.size, fun b hb => (Sa.other b (by have := hbxe.out; omega)).trans (Z.old b hb)⟩
  have rbx := row8 (x0 := .int .i64 j) (x1 := .int .i8 4) (x2 := .int .i64 (-1)) (x3 := .int .i64 arg) (x4 := .int .i64 0) (x5 := .int .i64 0) (x6 := .int .i64 0) (x7 := .bool false) hbx
  clear Z z0 Sa hfx c0 c1 c13
  replace hbx := Keep.mk hbx
  replace Ba := Keep.mk Ba
  obtain ⟨q0, q1, q2, q3, q4, q5, q6, q7⟩ := rbx
  repeat (first
    | refine y_go rfl ?_
    | (refine y_region ?_; simp only [rg, Nat.reduceAdd, List.range, List.range.loop])
    | (refine y_nw rfl (by rfl) rfl (by exact nx rfl) (fun dd hS K hK => ?_); go_simp; refine hK _ _ _ ?_; clear hK K hS dd; simp only [recOf]; try walk_nrm)
    | (refine y_unwanted rfl (by rfl) ?_; try walk_nrm) | refine y_condT rfl ?_ | refine y_condF rfl ?_
    | refine y_block ?_ | refine y_label ?_ | refine y_ret ?_ | refine y_end ?_)
  refine y_enter (args := #[.pointer (some ⟨A.tb j, 0, none⟩), .pointer (some ⟨cc, 0, none⟩), .agg ((⟨4, cc, arg, 0⟩ : Acc).stand j).cells.toArray]) rfl (by rfl) rfl rfl Try.func179 (by kernel_rfl) (by kernel_rfl) (by simp only [List.map_toArray, List.map_cons, List.map_nil] <;> rfl) ?_
  refine stands_core (a := ⟨4, cc, arg, 0⟩) h0 (M.out.grown Ba.out.old) hj hst ?_
  clear q0 q1 q2 q3 q4 q5 q6 q7
  intro gj k wb w1 w2 Bb S1 S2 Qt Qs
  replace M := M.out; replace B := B.out; replace hI := hI.out; replace hbx := hbx.out; replace Ba := Ba.out; replace hbxe := hbxe.out; replace hfit := hfit.out; replace ht := ht.out
  have hnd : decide (A.p.st j = .ended) = false := by simpa using hne
  rw [hnd] at S1
  have htbx : A.tb j ≠ bx := by have := lt_of_get ht; omega
  have hap : A.logv.ownBlock ≠ some bx := fun h => by have := (row_ty M.logs h).2.1; omega
  have M2 : GMem (A.stood j ⟨4, cc, arg, 0⟩ bx) none w2 := (GMem.stood M hj hst (Ba.trans Bb) S1 ((S1.other bx htbx.symm).trans (Bb.is hbx)) hap hc hfit).chan S2 (by
    obtain ⟨k2, h2⟩ := M.sdc j hj
    exact ⟨k2, (S1.other _ (ne_of_obj h2 ht (by simp [thrObj]))).trans ((Ba.trans Bb).is h2)⟩)
  rw [back_cfg (A' := A.stood j ⟨4, cc, arg, 0⟩ bx) (s := .stands ⟨4, cc, arg, 0⟩) h0 hj rfl rfl rfl rfl rfl rfl]
  have Bab := Ba.trans Bb
  have old2 : ∀ b, b < w.heap.size → b ≠ A.tb j → b ≠ A.sd j → w2.heap[b]? = w.heap[b]? := fun b hb h1 h2 => (S2.other b h2).trans ((S1.other b h1).trans (Bab.old b hb))
  have sz2 : w.heap.size ≤ w2.heap.size := by rw [S2.size, S1.size]; exact Bab.size
  refine B (A.stood j ⟨4, cc, arg, 0⟩ bx) κ s gj w2 M2 ⟨⟨.stands ⟨4, cc, arg, 0⟩, by simp, rfl⟩, rfl, rfl, rfl, rfl, rfl, rfl, rfl, rfl, rfl, rfl, fun i hi => setAt_ne _ _ hi, rfl, rfl, rfl, rfl, rfl, rfl, fun b hb => .inl hb⟩
    (C.stable hI sz2 fun b hb hn => ⟨old2 b hb (fun e => hn (e ▸ (M.owns.2.2.2.2.2.2.2.2 j hj).1)) (fun e => hn (e ▸ (M.owns.2.2.2.2.2.2.2.2 j hj).2.2.1)), fun h => h.elim hn fun e => by omega⟩) ?_
    ⟨sz2, fun b hb ho hg => old2 b hb (fun e => hg (.inr (.inr (.inl e)))) (fun e => hg (.inr (.inr (.inr (.inr (.inl e))))))⟩
  intro a' ha'
  obtain rfl : (⟨4, cc, arg, 0⟩ : Acc) = a' := Phase.stands.inj ((setAt_same A.p.st j (.stands ⟨4, cc, arg, 0⟩)).symm.trans ha')
  clear B hI hbx Ba Bb S1 S2 M2 Bab old2 sz2 ha' hap
  revert Qt Qs
  generalize hLe : (A.stood j ⟨4, cc, arg, 0⟩ bx).lay j = L
  have L1 : A.tb j = L.tb := by rw [← hLe]; rfl
  have L2 : A.R = L.R := by rw [← hLe]; rfl
  have L3 : bx = L.ab := by rw [← hLe]; exact (setAt_same A.ab j bx).symm
  have L4 : A.cells = L.cells := by rw [← hLe]; rfl
  have L5 : A.tc j = L.tc := by rw [← hLe]; rfl
  have L6 : A.rc j = L.rc := by rw [← hLe]; rfl
  intro Qt Qs
  have HP : ∀ n, n ≤ m → Promise Fin C n j κ ⟨4, cc, arg, 0⟩ L gj := by
    intro n hnm
    induction n with
    | zero =>
      intro A2 gs2 gm2 os2 out2 w3 hL h02 M2 hj2 hl2 hs2 BS
      have e1 : A.tb j = A2.tb j := by rw [L1, ← hL]; rfl
      have e2 : A.R = A2.R := by rw [L2, ← hL]; rfl
      have e4 : A.cells = A2.cells := by rw [L4, ← hL]; rfl
      have e5 : A.tc j = A2.tc j := by rw [L5, ← hL]; rfl
      have e6 : A.rc j = A2.rc j := by rw [L6, ← hL]; rfl
      have ht2 := M2.thr j hj2
      refine Qs _ _ (by rw [e1, e2]; exact M2.t0 hj2) (by rw [e2]; exact M2.r6.trans (by rw [hs2])) ?_
      exact y_leave_panic rfl rfl Try.func140 (HN.out _ _ _ ⟨rfl, A2, gs2, gm2, os2, out2, by unfold GA.home; rw [e1, e4, e5, e6], rfl, h02, M2, hj2, hl2, hs2, BS⟩)
    | succ n ih =>
      refine ⟨ih (Nat.le_of_succ_le hnm), ?_⟩
      intro A2 kap2 s2 gs2 gm2 os2 out2 w3 hL h02 M2 hj2 hs2 hst2 hpk hlog2 hk2 hI2 B2
      have e1 : A.tb j = A2.tb j := by rw [L1, ← hL]; rfl
      have e2 : A.R = A2.R := by rw [L2, ← hL]; rfl
      have e3 : bx = A2.ab j := by rw [L3, ← hL]; rfl
      have e4 : A.cells = A2.cells := by rw [L4, ← hL]; rfl
      have ht2 := M2.thr j hj2
      refine Qt _ _ (by rw [e1, e2]; exact M2.t0 hj2) (by rw [e2]; exact M2.r6.trans (by rw [hst2])) ?_
      clear Qt Qs ih
      rw [Frame.finish_at]
      walk_nrm
      show (tokenJ Try.prog Fin).Y _ _ _
      rw [e1, e3]
      have c0 := M2.t0 hj2
      have r1 := M2.r1
      have r2 := M2.r2
      obtain ⟨_, _, hcc, _, hab0⟩ := M2.stand j _ hj2 (by simp) hs2
      have hab : w3.heap[A2.ab j]? = some (.cells #[.int .i64 j, .int .i8 4, .int .i64 (-1), .int .i64 arg, .int .i64 0, .int .i64 0, .int .i64 0, .bool false] 194) := hab0 hst2
      have k1 : CellIs w3 cc (A2.p.cv cc) := M2.cell _ hcc
      have M3 := M2.under hj2
      have hfree : ∀ (b : Nat) (o : Obj), w3.heap[b]? = some o → (∀ x y z u v t, o ≠ .chan x y z u v t) → (∀ x y, o ≠ .cells x 33 y) → (∀ x y, o ≠ .cells x 205 y) → (cfgOf A2 (some j) gs2 gm2 os2 out2).Free (· = b) := fun b o hb n1 n2 n3 => free_of M3 (fun i hi => by cases hi; exact hj2) fun i hi => by
        obtain ⟨k1, h1⟩ := M2.wkc i hi
        obtain ⟨k2, h2⟩ := M2.sdc i hi
        exact ⟨ne_of_obj hb h1 (n1 _ _ _ _ _ _), ne_of_obj hb h2 (n1 _ _ _ _ _ _), ne_of_obj hb (M2.tcc i hi) (n2 _ _), ne_of_obj hb (M2.thr i hi) (n3 _ _)⟩
      have hfc : ∀ _ : Unit, (cfgOf A2 (some j) gs2 gm2 os2 out2).Free (· = cc) := fun _ => hfree _ _ k1.obj (by simp [cellObj]) (by simp [cellObj]) (by simp [cellObj])
      have hfa : ∀ lo hi, (cfgOf A2 (some j) gs2 gm2 os2 out2).FreeC (A2.ab j) lo hi := fun lo hi => Cfg.Free.cells (hfree _ _ hab (by simp) (by simp) (by simp))
      have ncc : A2.ab j ≠ cc := ne_of_obj hab k1.obj (by simp [cellObj])
      have ncab : ∀ x, A2.cells x → x ≠ A2.ab j := fun x hx => ne_of_obj (M2.cell x hx).obj hab (by simp [cellObj])
      have ntb : A2.tb j ≠ A2.ab j := ne_of_obj ht2 hab (by simp [thrObj])
      have nR : A2.R ≠ A2.ab j := ne_of_obj M2.runs hab (by simp [runObj])
      have nm : A2.mb ≠ A2.ab j := ne_of_obj M2.mapo hab (by simp)
      have ntc : A2.tb j ≠ cc := ne_of_obj ht2 k1.obj (by simp [thrObj, cellObj])
      have nRc : A2.R ≠ cc := ne_of_obj M2.runs k1.obj (by simp [runObj, cellObj])
      have nmc : A2.mb ≠ cc := ne_of_obj M2.mapo k1.obj (by simp [cellObj])
      have e5 : A.tc j = A2.tc j := by rw [L5, ← hL]; rfl
      have e6 : A.rc j = A2.rc j := by rw [L6, ← hL]; rfl
      have eHome := Keep.mk (show A2.home j = A.home j by unfold GA.home; rw [e1, e4, e5, e6])
      clear hab0 hLe L1 L2 L3 L4 L5 L6 e1 e2 e5 e6 M ht hnd htbx hbxe hL
      replace ncab := Keep.mk ncab
      replace hab := Keep.mk hab
      replace k1 := Keep.mk k1
      replace hfc := Keep.mk hfc
      replace hfa := Keep.mk hfa
      replace hfree := Keep.mk hfree
      replace M2 := Keep.mk M2
      replace M3 := Keep.mk M3
      replace hI2 := Keep.mk hI2
      replace B2 := Keep.mk B2
      replace ht2 := Keep.mk ht2
      replace hcc := Keep.mk hcc
      replace hs2 := Keep.mk hs2
      replace hpk := Keep.mk hpk
      replace hk2 := Keep.mk hk2
      repeat (first
        | refine y_go rfl ?_
        | (refine y_region ?_; simp only [rg, Nat.reduceAdd, List.range, List.range.loop])
        | (refine y_nw rfl (by rfl) rfl (by exact nx rfl) (fun dd hS K hK => ?_); go_simp; refine hK _ _ _ ?_; clear hK K hS dd; simp only [recOf]; try walk_nrm)
        | (refine y_unwanted rfl (by rfl) ?_; try walk_nrm) | refine y_condT rfl ?_ | refine y_condF rfl ?_
        | refine y_block ?_ | refine y_label ?_ | refine y_ret ?_ | refine y_end ?_)
      refine y_callR rfl (by rfl) rfl rfl Try.func141 (by kernel_rfl) (by kernel_rfl) (i64_load ⟨cc, 0, none⟩ (A2.p.cv cc) k1.out.v) (by simp only [List.map_toArray, List.map_cons, List.map_nil] <;> rfl) ?_
      rintro _ σ'' w'' ⟨rfl, e2, e3⟩
      rw [e2, e3]
      clear e2 e3 w'' σ''
      walk_nrm
      repeat (first
        | refine y_go rfl ?_
        | (refine y_region ?_; simp only [rg, Nat.reduceAdd, List.range, List.range.loop])
        | (refine y_nw rfl (by rfl) rfl (by exact nx rfl) (fun dd hS K hK => ?_); go_simp; refine hK _ _ _ ?_; clear hK K hS dd; simp only [recOf]; try walk_nrm)
        | (refine y_unwanted rfl (by rfl) ?_; try walk_nrm) | refine y_condT rfl ?_ | refine y_condF rfl ?_
        | refine y_block ?_ | refine y_label ?_ | refine y_ret ?_ | refine y_end ?_)
      refine y_storeC (vs := #[.int .i64 (A2.p.cv cc)]) rfl (by rfl) rfl rfl rfl rfl rfl hab.out (by first | kernel_rfl | rfl) (Nat.le_of_ble_eq_true rfl) (by simp [Value.oneCell']) (hfa.out _ _) (fun w4 S4 => ?_)
      try walk_nrm
      simp only [putAt, List.setIfInBounds_toArray, List.set_cons_succ, List.set_cons_zero] at S4
      replace hab := S4.is
      have k4 : CellIs w4 cc (A2.p.cv cc) := (S4.other _ ncc.symm).trans k1.out
      have R4 : ∀ b, b ≠ A2.ab j → b ≠ cc → w4.heap[b]? = w3.heap[b]? := fun b h1 _ => S4.other b h1
      have z4 : w4.heap.size = w3.heap.size := S4.size
      clear S4 k1
      replace hab := Keep.mk hab
      replace k4 := Keep.mk k4
      replace R4 := Keep.mk R4
      replace z4 := Keep.mk z4
      repeat (first
        | refine y_go rfl ?_
        | (refine y_region ?_; simp only [rg, Nat.reduceAdd, List.range, List.range.loop])
        | (refine y_nw rfl (by rfl) rfl (by exact nx rfl) (fun dd hS K hK => ?_); go_simp; refine hK _ _ _ ?_; clear hK K hS dd; simp only [recOf]; try walk_nrm)
        | (refine y_unwanted rfl (by rfl) ?_; try walk_nrm) | refine y_condT rfl ?_ | refine y_condF rfl ?_
        | refine y_block ?_ | refine y_label ?_ | refine y_ret ?_ | refine y_end ?_)
      refine y_callR rfl (by rfl) rfl rfl Try.func153 (by kernel_rfl) (by kernel_rfl) (num_add k4.out (hfc.out ()) arg) (by simp only [List.map_toArray, List.map_cons, List.map_nil] <;> rfl) ?_
      rintro _ _ w6 ⟨rfl, rfl, S6⟩
      walk_nrm
      have k6 : CellIs w6 cc (IntKind.i64.wrap (A2.p.cv cc + arg)) := S6.is
      replace hab : w6.heap[A2.ab j]? = _ := (S6.other _ ncc).trans hab.out
      have R6 : ∀ b, b ≠ A2.ab j → b ≠ cc → w6.heap[b]? = w3.heap[b]? := fun b h1 h2 => (S6.other b h2).trans (R4.out b h1 h2)
      have z6 : w6.heap.size = w3.heap.size := S6.size.trans z4.out
      clear S6
      clear k4 R4 z4
      replace hab := Keep.mk hab
      replace k6 := Keep.mk k6
      replace R6 := Keep.mk R6
      replace z6 := Keep.mk z6
      repeat (first
        | refine y_go rfl ?_
        | (refine y_region ?_; simp only [rg, Nat.reduceAdd, List.range, List.range.loop])
        | (refine y_nw rfl (by rfl) rfl (by exact nx rfl) (fun dd hS K hK => ?_); go_simp; refine hK _ _ _ ?_; clear hK K hS dd; simp only [recOf]; try walk_nrm)
        | (refine y_unwanted rfl (by rfl) ?_; try walk_nrm) | refine y_condT rfl ?_ | refine y_condF rfl ?_
        | refine y_block ?_ | refine y_label ?_ | refine y_ret ?_ | refine y_end ?_)
      refine y_callR rfl (by rfl) rfl rfl Try.func141 (by kernel_rfl) (by kernel_rfl) (i64_load ⟨cc, 0, none⟩ _ k6.out.v) (by simp only [List.map_toArray, List.map_cons, List.map_nil] <;> rfl) ?_
      rintro _ σ'' w'' ⟨rfl, e2, e3⟩
      rw [e2, e3]
      clear e2 e3 w'' σ''
      walk_nrm
      repeat (first
        | refine y_go rfl ?_
        | (refine y_region ?_; simp only [rg, Nat.reduceAdd, List.range, List.range.loop])
        | (refine y_nw rfl (by rfl) rfl (by exact nx rfl) (fun dd hS K hK => ?_); go_simp; refine hK _ _ _ ?_; clear hK K hS dd; simp only [recOf]; try walk_nrm)
        | (refine y_unwanted rfl (by rfl) ?_; try walk_nrm) | refine y_condT rfl ?_ | refine y_condF rfl ?_
        | refine y_block ?_ | refine y_label ?_ | refine y_ret ?_ | refine y_end ?_)
      refine y_storeC (vs := #[.int .i64 ((⟨4, cc, arg, 0⟩ : Acc).now (A2.p.cv cc))]) rfl (by rfl) rfl rfl rfl rfl rfl hab.out (by first | kernel_rfl | rfl) (Nat.le_of_ble_eq_true rfl) (by simp [Value.oneCell']) (hfa.out _ _) (fun w7 S7 => ?_)
      try walk_nrm
      simp only [putAt, List.setIfInBounds_toArray, List.set_cons_succ, List.set_cons_zero] at S7
      replace hab := S7.is
      have k7 : CellIs w7 cc ((⟨4, cc, arg, 0⟩ : Acc).now (A2.p.cv cc)) := (S7.other _ ncc.symm).trans k6.out
      have R7 : ∀ b, b ≠ A2.ab j → b ≠ cc → w7.heap[b]? = w3.heap[b]? := fun b h1 h2 => (S7.other b h1).trans (R6.out b h1 h2)
      have z7 : w7.heap.size = w3.heap.size := S7.size.trans z6.out
      clear S7 k6 R6 z6
      have d0 : w7.cell? ⟨A2.tb j, 0, none⟩ = some (.pointer (some ⟨A2.R, 0, none⟩)) := (cell?_of_block (R7 _ ntb ntc)).trans c0
      have d1 : w7.cell? ⟨A2.R, 1, none⟩ = some (.map (some A2.mb)) := (cell?_of_block (R7 _ nR nRc)).trans r1
      have d2 : w7.cell? ⟨A2.R, 2, none⟩ = some A2.logv := (cell?_of_block (R7 _ nR nRc)).trans r2
      have hm7 : w7.heap[A2.mb]? = some (.map (entriesOf A2.p.cn) A2.p.cn.length) := (R7 _ nm nmc).trans M2.out.mapo
      have hcs : ∀ x ∈ A2.p.cn, ∃ v, CellIs w7 x v := fun x hx => by
        by_cases e : x = cc
        · subst e; exact ⟨_, k7⟩
        · have h1 := M2.out.cell x (M2.out.cnc x hx)
          exact ⟨_, h1.later (R7 x (ncab.out x (M2.out.cnc x hx)) e)⟩
      replace hab := Keep.mk hab
      replace k7 := Keep.mk k7
      replace R7 := Keep.mk R7
      replace z7 := Keep.mk z7
      replace hm7 := Keep.mk hm7
      replace hcs := Keep.mk hcs
      repeat (first
        | refine y_go rfl ?_
        | (refine y_region ?_; simp only [rg, Nat.reduceAdd, List.range, List.range.loop])
        | (refine y_nw rfl (by rfl) rfl (by exact nx rfl) (fun dd hS K hK => ?_); go_simp; refine hK _ _ _ ?_; clear hK K hS dd; simp only [recOf]; try walk_nrm)
        | (refine y_unwanted rfl (by rfl) ?_; try walk_nrm) | refine y_condT rfl ?_ | refine y_condF rfl ?_
        | refine y_block ?_ | refine y_label ?_ | refine y_ret ?_ | refine y_end ?_)
      refine y_lookup (v := .tuple #[.int .i64 (if cc ∈ A2.p.cn then (A2.p.cn.idxOf cc : Int) else 0), .bool (decide (cc ∈ A2.p.cn))]) rfl (by rfl) rfl rfl rfl rfl (fun d => run_lookupN (w := w7.at d) k7.out hcs.out hm7.out) ?_
      walk_nrm
      by_cases hmem : cc ∈ A2.p.cn
      · simp only [hmem, if_true, decide_true]
        have hadd : addCell A2.p.cn cc = A2.p.cn := addCell_in hmem
        have hm8 : w7.heap[A2.mb]? = some (.map (entriesOf (addCell A2.p.cn cc)) (addCell A2.p.cn cc).length) := by rw [hadd]; exact hm7.out
        have hidx : (A2.p.cn.idxOf cc : Int) = ((addCell A2.p.cn cc).idxOf cc : Int) := by rw [hadd]
        rw [hidx]
        clear hidx hadd hmem
        replace hm8 := Keep.mk hm8
        have R8 : Keep (∀ b, b ≠ A2.ab j → b ≠ cc → b ≠ A2.mb → w7.heap[b]? = w3.heap[b]?) := Keep.mk fun b h1 h2 _ => R7.out b h1 h2
        clear R7 hm7 hcs
        have k8 := k7; have z8 := z7
        clear k7 z7
        repeat (first
          | refine y_go rfl ?_
          | (refine y_region ?_; simp only [rg, Nat.reduceAdd, List.range, List.range.loop])
          | (refine y_nw rfl (by rfl) rfl (by exact nx rfl) (fun dd hS K hK => ?_); go_simp; refine hK _ _ _ ?_; clear hK K hS dd; simp only [recOf]; try walk_nrm)
          | (refine y_unwanted rfl (by rfl) ?_; try walk_nrm) | refine y_condT rfl ?_ | refine y_condF rfl ?_
          | refine y_block ?_ | refine y_label ?_ | refine y_ret ?_ | refine y_end ?_)
        -- the record's entry, the end
        refine y_storeC (vs := #[.int .i64 ((addCell A2.p.cn cc).idxOf cc : Int)]) rfl (by rfl) rfl rfl rfl rfl rfl hab.out (by first | kernel_rfl | rfl) (Nat.le_of_ble_eq_true rfl) (by simp [Value.oneCell']) (hfa.out _ _) (fun w9 S9 => ?_)
        try walk_nrm
        simp only [putAt, List.setIfInBounds_toArray, List.set_cons_succ, List.set_cons_zero] at S9
        have hab9 : w9.heap[A2.ab j]? = some (.cells ((⟨4, cc, arg, 0⟩ : Acc).done j ((addCell A2.p.cn cc).idxOf cc) (A2.p.cv cc)).cells.toArray 194) := S9.is
        have R9 : ∀ b, b ≠ A2.ab j → b ≠ cc → b ≠ A2.mb → w9.heap[b]? = w3.heap[b]? := fun b h1 h2 h3 => (S9.other b h1).trans (R8.out b h1 h2 h3)
        have hm9 : w9.heap[A2.mb]? = some (.map (entriesOf (addCell A2.p.cn cc)) (addCell A2.p.cn cc).length) := (S9.other _ nm).trans hm8.out
        have k9 : CellIs w9 cc ((⟨4, cc, arg, 0⟩ : Acc).now (A2.p.cv cc)) := (S9.other _ ncc.symm).trans k8.out
        have z9 : w9.heap.size = w3.heap.size := S9.size.trans z8.out
        clear S9 R8 hm8 k8 z8 hab d0 d1 d2
        have ntm : A2.tb j ≠ A2.mb := ne_of_obj ht2.out M2.out.mapo (by simp [thrObj])
        have nRm : A2.R ≠ A2.mb := ne_of_obj M2.out.runs M2.out.mapo (by simp [runObj])
        have rw9 : ∀ b, b < w9.heap.size → b < w3.heap.size := fun b h => by omega
        have hS0 : w9.cell? ⟨A2.tb j, 0, none⟩ = some (.pointer (some ⟨A2.R, 0, none⟩)) := (cell?_of_block (R9 _ ntb ntc ntm)).trans c0
        have hS2 : w9.cell? ⟨A2.R, 2, none⟩ = some A2.logv := (cell?_of_block (R9 _ nR nRc nRm)).trans r2
        have r9 := row8 (x0 := .int .i64 j) (x1 := .int .i8 4) (x2 := .int .i64 ((addCell A2.p.cn cc).idxOf cc : Int)) (x3 := .int .i64 arg) (x4 := .int .i64 0) (x5 := .int .i64 (A2.p.cv cc)) (x6 := .int .i64 ((⟨4, cc, arg, 0⟩ : Acc).now (A2.p.cv cc))) (x7 := .bool ((⟨4, cc, arg, 0⟩ : Acc).ok (A2.p.cv cc))) hab9
        have hSL : SLog (A2.tb j) A2.R (A2.ab j) A2.logv (.int .i64 j) (.int .i8 4) (.int .i64 ((addCell A2.p.cn cc).idxOf cc : Int)) (.int .i64 arg) (.int .i64 0) (.int .i64 (A2.p.cv cc)) (.int .i64 ((⟨4, cc, arg, 0⟩ : Acc).now (A2.p.cv cc))) (.bool ((⟨4, cc, arg, 0⟩ : Acc).ok (A2.p.cv cc))) w9 := ⟨hS0, hS2, r9⟩
        have hSLk := Keep.mk hSL
        replace hab9 := Keep.mk hab9
        replace R9 := Keep.mk R9
        replace hm9 := Keep.mk hm9
        replace k9 := Keep.mk k9
        replace z9 := Keep.mk z9
        replace rw9 := Keep.mk rw9
        repeat (first
          | refine y_go rfl ?_
          | (refine y_region ?_; simp only [rg, Nat.reduceAdd, List.range, List.range.loop])
          | (refine y_nw rfl (by rfl) rfl (by exact nx rfl) (fun dd hS K hK => ?_); go_simp; refine hK _ _ _ ?_; clear hK K hS dd; simp only [recOf]; try walk_nrm)
          | (refine y_unwanted rfl (by rfl) ?_; try walk_nrm) | refine y_condT rfl ?_ | refine y_condF rfl ?_
          | refine y_block ?_ | refine y_label ?_ | refine y_ret ?_ | refine y_end ?_)
        refine y_drawnQ (fun _ w' => SLog (A2.tb j) A2.R (A2.ab j) A2.logv (.int .i64 j) (.int .i8 4) (.int .i64 ((addCell A2.p.cn cc).idxOf cc : Int)) (.int .i64 arg) (.int .i64 0) (.int .i64 (A2.p.cv cc)) (.int .i64 ((⟨4, cc, arg, 0⟩ : Acc).now (A2.p.cv cc))) (.bool ((⟨4, cc, arg, 0⟩ : Acc).ok (A2.p.cv cc))) w') (fun j => j == 16) (by kernel_rfl) rfl ?_
        simp only [List.size_toArray, List.length_cons, List.length_nil, Nat.reduceAdd, Nat.reduceSub, Nat.zero_add, Array.replicate_succ, Array.replicate_zero, List.push_toArray, List.append_toArray, List.nil_append, List.cons_append, List.append_nil]
        first | (apply anyX_tW (i := 0) rfl; (focus rfl); (focus (exact nx rfl)); (focus (rintro σ' w' ⟨s8, s9, s0, s1, s2, s3, s4, s5, s6, s7⟩ d K hK; go_simp; exact hK)); (focus kernel_rfl); (focus (exact hSL))) | (refine anyX_tU (i := 0) rfl rfl (by kernel_rfl) (by exact hSL) ?_)
        try walk_nrm
        first | (apply anyX_tW (i := 1) rfl; (focus rfl); (focus (exact nx rfl)); (focus (rintro σ' w' ⟨s8, s9, s0, s1, s2, s3, s4, s5, s6, s7⟩ d K hK; go_simp; exact hK)); (focus kernel_rfl); (focus (exact hSL))) | (refine anyX_tU (i := 1) rfl rfl (by kernel_rfl) (by exact hSL) ?_)
        try walk_nrm
        first | (apply anyX_tW (i := 2) rfl; (focus rfl); (focus (exact nx rfl)); (focus (rintro σ' w' ⟨s8, s9, s0, s1, s2, s3, s4, s5, s6, s7⟩ d K hK; go_simp; exact hK)); (focus kernel_rfl); (focus (exact hSL))) | (refine anyX_tU (i := 2) rfl rfl (by kernel_rfl) (by exact hSL) ?_)
        try walk_nrm
        first | (apply anyX_tW (i := 3) rfl; (focus rfl); (focus (exact nx rfl)); (focus (rintro σ' w' ⟨s8, s9, s0, s1, s2, s3, s4, s5, s6, s7⟩ d K hK; go_simp; exact hK)); (focus kernel_rfl); (focus (exact hSL))) | (refine anyX_tU (i := 3) rfl rfl (by kernel_rfl) (by exact hSL) ?_)
        try walk_nrm
        first | (apply anyX_tW (i := 4) rfl; (focus rfl); (focus (exact nx rfl)); (focus (rintro σ' w' ⟨s8, s9, s0, s1, s2, s3, s4, s5, s6, s7⟩ d K hK; go_simp; exact hK)); (focus kernel_rfl); (focus (exact hSL))) | (refine anyX_tU (i := 4) rfl rfl (by kernel_rfl) (by exact hSL) ?_)
        try walk_nrm
        first | (apply anyX_tW (i := 5) rfl; (focus rfl); (focus (exact nx rfl)); (focus (rintro σ' w' ⟨s8, s9, s0, s1, s2, s3, s4, s5, s6, s7⟩ d K hK; go_simp; exact hK)); (focus kernel_rfl); (focus (exact hSL))) | (refine anyX_tU (i := 5) rfl rfl (by kernel_rfl) (by exact hSL) ?_)
        try walk_nrm
        first | (apply anyX_tW (i := 6) rfl; (focus rfl); (focus (exact nx rfl)); (focus (rintro σ' w' ⟨s8, s9, s0, s1, s2, s3, s4, s5, s6, s7⟩ d K hK; go_simp; exact hK)); (focus kernel_rfl); (focus (exact hSL))) | (refine anyX_tU (i := 6) rfl rfl (by kernel_rfl) (by exact hSL) ?_)
        try walk_nrm
        first | (apply anyX_tW (i := 7) rfl; (focus rfl); (focus (exact nx rfl)); (focus (rintro σ' w' ⟨s8, s9, s0, s1, s2, s3, s4, s5, s6, s7⟩ d K hK; go_simp; exact hK)); (focus kernel_rfl); (focus (exact hSL))) | (refine anyX_tU (i := 7) rfl rfl (by kernel_rfl) (by exact hSL) ?_)
        try walk_nrm
        first | (apply anyX_tW (i := 8) rfl; (focus rfl); (focus (exact nx rfl)); (focus (rintro σ' w' ⟨s8, s9, s0, s1, s2, s3, s4, s5, s6, s7⟩ d K hK; go_simp; exact hK)); (focus kernel_rfl); (focus (exact hSL))) | (refine anyX_tU (i := 8) rfl rfl (by kernel_rfl) (by exact hSL) ?_)
        try walk_nrm
        first | (apply anyX_tW (i := 9) rfl; (focus rfl); (focus (exact nx rfl)); (focus (rintro σ' w' ⟨s8, s9, s0, s1, s2, s3, s4, s5, s6, s7⟩ d K hK; go_simp; exact hK)); (focus kernel_rfl); (focus (exact hSL))) | (refine anyX_tU (i := 9) rfl rfl (by kernel_rfl) (by exact hSL) ?_)
        try walk_nrm
        first | (apply anyX_tW (i := 10) rfl; (focus rfl); (focus (exact nx rfl)); (focus (rintro σ' w' ⟨s8, s9, s0, s1, s2, s3, s4, s5, s6, s7⟩ d K hK; go_simp; exact hK)); (focus kernel_rfl); (focus (exact hSL))) | (refine anyX_tU (i := 10) rfl rfl (by kernel_rfl) (by exact hSL) ?_)
        try walk_nrm
        first | (apply anyX_tW (i := 11) rfl; (focus rfl); (focus (exact nx rfl)); (focus (rintro σ' w' ⟨s8, s9, s0, s1, s2, s3, s4, s5, s6, s7⟩ d K hK; go_simp; exact hK)); (focus kernel_rfl); (focus (exact hSL))) | (refine anyX_tU (i := 11) rfl rfl (by kernel_rfl) (by exact hSL) ?_)
        try walk_nrm
        have B10 := Bigger.alloc w9 (.cells #[.int .i64 j, .int .i8 4, .int .i64 ((addCell A2.p.cn cc).idxOf cc : Int), .int .i64 arg, .int .i64 0, .int .i64 (A2.p.cv cc), .int .i64 ((⟨4, cc, arg, 0⟩ : Acc).now (A2.p.cv cc)), .bool ((⟨4, cc, arg, 0⟩ : Acc).ok (A2.p.cv cc))] 194)
        refine anyX_one (i := 12) (by kernel_rfl) (opX_nw rfl (by rfl) (by exact nx rfl) (fun dd hS K' hK' => ?_))
        go_simp
        refine hK' _ _ _ ?_
        clear hK' K' hS dd
        refine ⟨fun _ => hSLk.out.big B10, ?_⟩
        try walk_nrm
        have n10 := cells_new w9 [.int .i64 j, .int .i8 4, .int .i64 ((addCell A2.p.cn cc).idxOf cc : Int), .int .i64 arg, .int .i64 0, .int .i64 (A2.p.cv cc), .int .i64 ((⟨4, cc, arg, 0⟩ : Acc).now (A2.p.cv cc)), .bool ((⟨4, cc, arg, 0⟩ : Acc).ok (A2.p.cv cc))] 194
        have z10 : (w9.alloc (.cells #[.int .i64 j, .int .i8 4, .int .i64 ((addCell A2.p.cn cc).idxOf cc : Int), .int .i64 arg, .int .i64 0, .int .i64 (A2.p.cv cc), .int .i64 ((⟨4, cc, arg, 0⟩ : Acc).now (A2.p.cv cc)), .bool ((⟨4, cc, arg, 0⟩ : Acc).ok (A2.p.cv cc))] 194)).heap.size = w9.heap.size + 1 := Array.size_push _
        generalize w9.alloc (.cells #[.int .i64 j, .int .i8 4, .int .i64 ((addCell A2.p.cn cc).idxOf cc : Int), .int .i64 arg, .int .i64 0, .int .i64 (A2.p.cv cc), .int .i64 ((⟨4, cc, arg, 0⟩ : Acc).now (A2.p.cv cc)), .bool ((⟨4, cc, arg, 0⟩ : Acc).ok (A2.p.cv cc))] 194) = w10 at n10 B10 z10 ⊢
        have nlog : ∀ {b : Nat} {o : Obj}, w3.heap[b]? = some o → (∀ x y, o ≠ .cells x 194 y) → A2.logv.ownBlock ≠ some b := fun hb n1 h => by
          obtain ⟨_, _, cur, hcur⟩ := row_ty M2.out.logs h
          exact ne_of_obj hb hcur (n1 _ _) rfl
        have nlab : A2.logv.ownBlock ≠ some (A2.ab j) := M2.out.apart.2.2 j _ hj2 (by simp) hs2.out hst2
        have ltlog : ∀ b, A2.logv.ownBlock = some b → b < w3.heap.size := fun b h => (row_ty M2.out.logs h).2.1
        have own10 : w10.ownsRow 0 194 8 A2.logv A2.p.log.length (flatLog A2.p.log) := row_later M2.out.logs fun b h => by
          refine (B10.old b (by have := ltlog b h; have := z9.out; omega)).trans (R9.out b (fun e => nlab (e ▸ h)) (fun e => ?_) (fun e => ?_))
          · exact nlog (M2.out.cell _ hcc.out).obj (by simp [cellObj]) (e ▸ h)
          · exact nlog M2.out.mapo (by simp) (e ▸ h)
        have hflog : (cfgOf A2 (some j) gs2 gm2 os2 out2).Free (fun c => some c = A2.logv.ownBlock) := fun i s hs => ⟨fun h => by
            obtain ⟨_, _, cur, hcur⟩ := row_ty M2.out.logs h.symm
            exact (hfree.out _ _ hcur (by simp) (by simp) (by simp) i s hs).1 rfl, fun p hp h => by
            obtain ⟨_, _, cur, hcur⟩ := row_ty M2.out.logs h.symm
            exact (hfree.out _ _ hcur (by simp) (by simp) (by simp) i s hs).2 p hp rfl⟩
        obtain ⟨i0, hi, hz0, hz1, hz2⟩ := info_parts (P := Try.prog) (e := 194) (z := .agg #[.int .i64 0, .int .i8 0, .int .i64 0, .int .i64 0, .int .i64 0, .int .i64 0, .int .i64 0, .bool false]) (size := 8) (bytes := 64) (by kernel_rfl)
        refine anyX_one (i := 13) (by kernel_rfl) (opX_append (size := 8) (bytes := 64) rfl (by rfl) rfl Try.underlying41 hi hz0 hz1 hz2 rfl (by decide) 0 rfl own10 rfl rfl n10 (fun x hx => by simp at hx; rcases hx with rfl | rfl | rfl | rfl | rfl | rfl | rfl | rfl <;> rfl) (by unfold maxLen; omega) (by omega) (Nat.zero_le _) hflog ?_)
        intro logv' w11 own11 g11 _ b11
        have old11 : ∀ b, b < w3.heap.size → A2.logv.ownBlock ≠ some b → w11.heap[b]? = w9.heap[b]? := fun b hb hl => (g11.block b (by have := z9.out; omega) (fun h => hl h.symm)).trans (B10.old b (by have := z9.out; omega))
        have hSL11 := hSLk.out.old (old11 _ (lt_of_get ht2.out) (nlog ht2.out (by simp [thrObj]))) (old11 _ (lt_of_get M2.out.runs) (nlog M2.out.runs (by simp [runObj]))) (old11 _ (by have := lt_of_get hab9.out; have := z9.out; omega) nlab)
        have hR11 : w11.heap[A2.R]? = some (.cells #[A2.thv, .map (some A2.mb), A2.logv, A2.wentv, A2.readyv, A2.fellv, .bool A2.stops] 200) := (old11 _ (lt_of_get M2.out.runs) (nlog M2.out.runs (by simp [runObj]))).trans ((R9.out _ nR nRc nRm).trans M2.out.runs)
        have sz11 : w3.heap.size ≤ w11.heap.size := by have := g11.size; have := z9.out; omega
        refine ⟨fun _ => hSL11, ?_⟩
        walk_nrm
        refine anyX_one (i := 14) (by kernel_rfl) (opX_nw rfl (by rfl) (by exact nx rfl) (fun dd hS K' hK' => ?_))
        go_simp
        refine hK' _ _ _ ?_
        clear hK' K' hS dd
        refine ⟨fun _ => hSL11, ?_⟩
        try walk_nrm
        refine anyX_one (i := 15) (by kernel_rfl) (opX_nw rfl (by rfl) (by exact nx rfl) (fun dd hS K' hK' => ?_))
        go_simp
        refine hK' _ _ _ ?_
        clear hK' K' hS dd
        refine ⟨fun _ => hSL11, ?_⟩
        try walk_nrm
        obtain ⟨bo, cp, rfl⟩ := row_slice own11
        refine anyX_one (i := 16) (by kernel_rfl) (opX_storeC (vs := #[.slice bo (A2.p.log.length + 1) cp]) rfl (by rfl) rfl rfl rfl rfl hR11 (by first | kernel_rfl | rfl) (Nat.le_of_ble_eq_true rfl) (by simp [Value.oneCell']) (Cfg.Free.cells (hfree.out _ _ M2.out.runs (by simp [runObj]) (by simp [runObj]) (by simp [runObj]))) (fun w12 S12 => ?_))
        refine ⟨fun h => absurd h (by simp), ?_⟩
        try walk_nrm
        simp only [putAt, List.setIfInBounds_toArray, List.set_cons_succ, List.set_cons_zero] at S12
        refine anyX_end (by kernel_rfl) ?_
        have nRl : ∀ b, A2.R = b → A2.logv.ownBlock ≠ some b := fun b e => e ▸ nlog M2.out.runs (by simp [runObj])
        have own12 : w12.ownsRow 0 194 8 (.slice bo (A2.p.log.length + 1) cp) (A2.p.log.length + 1) (flatLog A2.p.log ++ ((⟨4, cc, arg, 0⟩ : Acc).done j ((addCell A2.p.cn cc).idxOf cc) (A2.p.cv cc)).cells) := row_later own11 fun b h => S12.other b fun e => by
          obtain ⟨_, _, cur, hcur⟩ := row_ty own11 h
          exact ne_of_obj hcur hR11 (by simp) e
        have hnew : ∀ b, (Value.slice bo (A2.p.log.length + 1) cp).ownBlock = some b → A2.logv.ownBlock = some b ∨ w3.heap.size ≤ b := fun b h => by
          rcases b11 with e | e
          · exact .inl (e ▸ h)
          · rw [e] at h; have := Option.some.inj h; have := z9.out; exact .inr (by omega)
        have old12 : ∀ b, b < w3.heap.size → b ≠ cc → b ≠ A2.mb → b ≠ A2.R → b ≠ A2.ab j → A2.logv.ownBlock ≠ some b → w12.heap[b]? = w3.heap[b]? := fun b hb h1 h2 h3 h4 h5 => (S12.other b h3).trans ((old11 b hb h5).trans (R9.out b h4 h1 h2))
        have sz12 : w3.heap.size ≤ w12.heap.size := by rw [S12.size]; exact sz11
        have hab12 : w12.heap[A2.ab j]? = _ := (S12.other _ nR.symm).trans ((old11 _ (by have := lt_of_get hab9.out; have := z9.out; omega) nlab).trans hab9.out)
        have k12 : CellIs w12 cc ((⟨4, cc, arg, 0⟩ : Acc).now (A2.p.cv cc)) := (S12.other _ nRc.symm).trans ((old11 cc (by have := k9.out.lt; have := z9.out; omega) (nlog (M2.out.cell _ hcc.out).obj (by simp [cellObj]))).trans k9.out)
        have hm12 : w12.heap[A2.mb]? = _ := (S12.other _ nRm.symm).trans ((old11 _ (lt_of_get M2.out.mapo) (nlog M2.out.mapo (by simp))).trans hm9.out)
        have M12 : GMem (A2.logged j ⟨4, cc, arg, 0⟩ (.slice bo (A2.p.log.length + 1) cp)) (some j) w12 := GMem.accd M3.out hj2 hcc.out hlog2 sz12 k12 hm12 S12.is own12 hnew ⟨#[.int .i8 4, .int .i64 (-1), .int .i64 arg, .int .i64 0, .int .i64 0, .int .i64 0, .bool false], by rw [(M2.out.stand j _ hj2 (by simp) hs2.out).2.2.2.2 hst2]; simp [Acc.stand, Entry.cells]⟩ nlab fun b hb _ h1 h2 h3 h4 h5 => old12 b hb h1 h2 h3 h4 h5
        obtain ⟨oR, omb, oc, _, ol, _, _, _, oj⟩ := M2.out.owns
        have oab := (oj j hj2).2.2.2.2.2.2 _ (by simp) hs2.out
        have I12 : C.I kap2 s2 A2.p (A2.logged j ⟨4, cc, arg, 0⟩ (.slice bo (A2.p.log.length + 1) cp)).own w12 := C.stable hI2.out sz12 fun b hb hn => ⟨old12 b hb (fun e => hn (e ▸ oc _ hcc.out)) (fun e => hn (e ▸ omb)) (fun e => hn (e ▸ oR)) (fun e => hn (e ▸ oab)) (fun h => hn (ol b h)), fun h => h.elim hn fun h => (hnew b h).elim (fun h => hn (ol b h)) fun h => by omega⟩
        have BB := B2.out.logged (wf := w12) sz12 hnew fun b hb _ hg => old12 b hb (fun e => hg (.inr (.inr (.inr (.inr (.inr (.inl (e ▸ hcc.out)))))))) (fun e => hg (.inr (.inl e))) (fun e => hg (.inl e)) (fun e => hg (.inr (.inr (.inr (.inr (.inr (.inr (.inr e)))))))) (fun h => hg (.inr (.inr (.inr (.inr (.inr (.inr (.inl h))))))))
        have r12 := row8 (x0 := .int .i64 j) (x1 := .int .i8 4) (x2 := .int .i64 ((addCell A2.p.cn cc).idxOf cc : Int)) (x3 := .int .i64 arg) (x4 := .int .i64 0) (x5 := .int .i64 (A2.p.cv cc)) (x6 := .int .i64 ((⟨4, cc, arg, 0⟩ : Acc).now (A2.p.cv cc))) (x7 := .bool ((⟨4, cc, arg, 0⟩ : Acc).ok (A2.p.cv cc))) hab12
        clear old12 hnew hab12 own12 hm12 k12 S12 old11 own11 hR11 g11 hSL hSLk hSL11 hflog own10 nlog ltlog n10 B10 hS0 hS2 r9 hi hz0 hz1 hz2
        replace M12 := Keep.mk M12
        replace I12 := Keep.mk I12
        replace BB := Keep.mk BB
        replace oR := Keep.mk oR
        replace omb := Keep.mk omb
        replace oc := Keep.mk oc
        replace ol := Keep.mk ol
        replace oj := Keep.mk oj
        replace oab := Keep.mk oab
        replace sz12 := Keep.mk sz12
        replace nRl := Keep.mk nRl
        replace b11 := Keep.mk b11
        replace rw9 := Keep.mk rw9
        repeat (first
          | refine y_go rfl ?_
          | (refine y_region ?_; simp only [rg, Nat.reduceAdd, List.range, List.range.loop])
          | (refine y_nw rfl (by rfl) rfl (by exact nx rfl) (fun dd hS K hK => ?_); go_simp; refine hK _ _ _ ?_; clear hK K hS dd; simp only [recOf]; try walk_nrm)
          | (refine y_unwanted rfl (by rfl) ?_; try walk_nrm) | refine y_condT rfl ?_ | refine y_condF rfl ?_
          | refine y_block ?_ | refine y_label ?_ | refine y_ret ?_ | refine y_end ?_)
        refine y_drawnQ (fun _ w' => Row8 w' (A2.ab j) (.int .i64 j) (.int .i8 4) (.int .i64 ((addCell A2.p.cn cc).idxOf cc : Int)) (.int .i64 arg) (.int .i64 0) (.int .i64 (A2.p.cv cc)) (.int .i64 ((⟨4, cc, arg, 0⟩ : Acc).now (A2.p.cv cc))) (.bool ((⟨4, cc, arg, 0⟩ : Acc).ok (A2.p.cv cc)))) (fun _ => false) (by kernel_rfl) rfl ?_
        simp only [List.size_toArray, List.length_cons, List.length_nil, Nat.reduceAdd, Nat.reduceSub, Nat.zero_add, Array.replicate_succ, Array.replicate_zero, List.push_toArray, List.append_toArray, List.nil_append, List.cons_append, List.append_nil]
        first | (apply anyX_tW (i := 0) rfl; (focus rfl); (focus (exact nx rfl)); (focus (rintro σ' w' ⟨s0, s1, s2, s3, s4, s5, s6, s7⟩ d K hK; go_simp; exact hK)); (focus kernel_rfl); (focus (exact r12))) | (refine anyX_tU (i := 0) rfl rfl (by kernel_rfl) (by exact r12) ?_)
        try walk_nrm
        first | (apply anyX_tW (i := 1) rfl; (focus rfl); (focus (exact nx rfl)); (focus (rintro σ' w' ⟨s0, s1, s2, s3, s4, s5, s6, s7⟩ d K hK; go_simp; exact hK)); (focus kernel_rfl); (focus (exact r12))) | (refine anyX_tU (i := 1) rfl rfl (by kernel_rfl) (by exact r12) ?_)
        try walk_nrm
        first | (apply anyX_tW (i := 2) rfl; (focus rfl); (focus (exact nx rfl)); (focus (rintro σ' w' ⟨s0, s1, s2, s3, s4, s5, s6, s7⟩ d K hK; go_simp; exact hK)); (focus kernel_rfl); (focus (exact r12))) | (refine anyX_tU (i := 2) rfl rfl (by kernel_rfl) (by exact r12) ?_)
        try walk_nrm
        first | (apply anyX_tW (i := 3) rfl; (focus rfl); (focus (exact nx rfl)); (focus (rintro σ' w' ⟨s0, s1, s2, s3, s4, s5, s6, s7⟩ d K hK; go_simp; exact hK)); (focus kernel_rfl); (focus (exact r12))) | (refine anyX_tU (i := 3) rfl rfl (by kernel_rfl) (by exact r12) ?_)
        try walk_nrm
        first | (apply anyX_tW (i := 4) rfl; (focus rfl); (focus (exact nx rfl)); (focus (rintro σ' w' ⟨s0, s1, s2, s3, s4, s5, s6, s7⟩ d K hK; go_simp; exact hK)); (focus kernel_rfl); (focus (exact r12))) | (refine anyX_tU (i := 4) rfl rfl (by kernel_rfl) (by exact r12) ?_)
        try walk_nrm
        first | (apply anyX_tW (i := 5) rfl; (focus rfl); (focus (exact nx rfl)); (focus (rintro σ' w' ⟨s0, s1, s2, s3, s4, s5, s6, s7⟩ d K hK; go_simp; exact hK)); (focus kernel_rfl); (focus (exact r12))) | (refine anyX_tU (i := 5) rfl rfl (by kernel_rfl) (by exact r12) ?_)
        try walk_nrm
        first | (apply anyX_tW (i := 6) rfl; (focus rfl); (focus (exact nx rfl)); (focus (rintro σ' w' ⟨s0, s1, s2, s3, s4, s5, s6, s7⟩ d K hK; go_simp; exact hK)); (focus kernel_rfl); (focus (exact r12))) | (refine anyX_tU (i := 6) rfl rfl (by kernel_rfl) (by exact r12) ?_)
        try walk_nrm
        first | (apply anyX_tW (i := 7) rfl; (focus rfl); (focus (exact nx rfl)); (focus (rintro σ' w' ⟨s0, s1, s2, s3, s4, s5, s6, s7⟩ d K hK; go_simp; exact hK)); (focus kernel_rfl); (focus (exact r12))) | (refine anyX_tU (i := 7) rfl rfl (by kernel_rfl) (by exact r12) ?_)
        try walk_nrm
        first | (apply anyX_tW (i := 8) rfl; (focus rfl); (focus (exact nx rfl)); (focus (rintro σ' w' ⟨s0, s1, s2, s3, s4, s5, s6, s7⟩ d K hK; go_simp; exact hK)); (focus kernel_rfl); (focus (exact r12))) | (refine anyX_tU (i := 8) rfl rfl (by kernel_rfl) (by exact r12) ?_)
        try walk_nrm
        refine anyX_end (by kernel_rfl) ?_
        repeat (first
          | refine y_go rfl ?_
          | (refine y_region ?_; simp only [rg, Nat.reduceAdd, List.range, List.range.loop])
          | (refine y_nw rfl (by rfl) rfl (by exact nx rfl) (fun dd hS K hK => ?_); go_simp; refine hK _ _ _ ?_; clear hK K hS dd; simp only [recOf]; try walk_nrm)
          | (refine y_unwanted rfl (by rfl) ?_; try walk_nrm) | refine y_condT rfl ?_ | refine y_condF rfl ?_
          | refine y_block ?_ | refine y_label ?_ | refine y_ret ?_ | refine y_end ?_)
        refine y_leave rfl rfl Try.func140 (resultsC_tmp3 rfl _) (H.out _ _ _ ?_)
        exact ⟨A2.p, kap2, s2, _, n, hnm, hk2.out, hs2.out, hpk.out, I12.out, rfl, eHome.out, ⟨gs2, gm2, os2, out2, rfl, h02, M12.out, hj2, hst2, by show A2.p.st j ≠ .ended; rw [hs2.out]; simp, BB.out⟩, rfl⟩
      · simp only [hmem, if_false, decide_false]
        have hadd : addCell A2.p.cn cc = A2.p.cn ++ [cc] := addCell_out hmem
        replace hadd := Keep.mk hadd
        repeat (first
          | refine y_go rfl ?_
          | (refine y_region ?_; simp only [rg, Nat.reduceAdd, List.range, List.range.loop])
          | (refine y_nw rfl (by rfl) rfl (by exact nx rfl) (fun dd hS K hK => ?_); go_simp; refine hK _ _ _ ?_; clear hK K hS dd; simp only [recOf]; try walk_nrm)
          | (refine y_unwanted rfl (by rfl) ?_; try walk_nrm) | refine y_condT rfl ?_ | refine y_condF rfl ?_
          | refine y_block ?_ | refine y_label ?_ | refine y_ret ?_ | refine y_end ?_)
        refine y_lenMap rfl (by rfl) rfl rfl rfl ⟨_, _, Try.underlying197⟩ hm7.out ?_
        rw [entries_size]
        walk_nrm
        repeat (first
          | refine y_go rfl ?_
          | (refine y_region ?_; simp only [rg, Nat.reduceAdd, List.range, List.range.loop])
          | (refine y_nw rfl (by rfl) rfl (by exact nx rfl) (fun dd hS K hK => ?_); go_simp; refine hK _ _ _ ?_; clear hK K hS dd; simp only [recOf]; try walk_nrm)
          | (refine y_unwanted rfl (by rfl) ?_; try walk_nrm) | refine y_condT rfl ?_ | refine y_condF rfl ?_
          | refine y_block ?_ | refine y_label ?_ | refine y_ret ?_ | refine y_end ?_)
        refine y_mapUpdate (w' := { w7 with heap := w7.heap.setIfInBounds A2.mb (.map (entriesOf (A2.p.cn ++ [cc])) (A2.p.cn ++ [cc]).length) }) rfl (by rfl) rfl rfl rfl rfl rfl hm7.out trivial (fun d => run_mapUpdateN (w := w7.at d) k7.out hcs.out hm7.out hmem) (hfree.out _ _ M2.out.mapo (by simp) (by simp) (by simp)) ?_
        walk_nrm
        have S8 := setB_put (o := .map (entriesOf (A2.p.cn ++ [cc])) (A2.p.cn ++ [cc]).length) (lt_of_get hm7.out)
        generalize { w7 with heap := w7.heap.setIfInBounds A2.mb (.map (entriesOf (A2.p.cn ++ [cc])) (A2.p.cn ++ [cc]).length) } = w8 at S8 ⊢
        have hm8 : w8.heap[A2.mb]? = some (.map (entriesOf (addCell A2.p.cn cc)) (addCell A2.p.cn cc).length) := by rw [hadd.out]; exact S8.is
        have hidx : (A2.p.cn.length : Int) = ((addCell A2.p.cn cc).idxOf cc : Int) := by rw [hadd.out, idx_out hmem]
        rw [hidx]
        have R8 : ∀ b, b ≠ A2.ab j → b ≠ cc → b ≠ A2.mb → w8.heap[b]? = w3.heap[b]? := fun b h1 h2 h3 => (S8.other b h3).trans (R7.out b h1 h2)
        have k8 : CellIs w8 cc ((⟨4, cc, arg, 0⟩ : Acc).now (A2.p.cv cc)) := (S8.other _ nmc.symm).trans k7.out
        have z8 : w8.heap.size = w3.heap.size := S8.size.trans z7.out
        replace hab := (S8.other _ nm.symm).trans hab.out
        clear hidx hadd hmem S8 k7 R7 z7 hm7 hcs
        replace hm8 := Keep.mk hm8
        replace R8 := Keep.mk R8
        replace k8 := Keep.mk k8
        replace z8 := Keep.mk z8
        replace hab := Keep.mk hab
        repeat (first
          | refine y_go rfl ?_
          | (refine y_region ?_; simp only [rg, Nat.reduceAdd, List.range, List.range.loop])
          | (refine y_nw rfl (by rfl) rfl (by exact nx rfl) (fun dd hS K hK => ?_); go_simp; refine hK _ _ _ ?_; clear hK K hS dd; simp only [recOf]; try walk_nrm)
          | (refine y_unwanted rfl (by rfl) ?_; try walk_nrm) | refine y_condT rfl ?_ | refine y_condF rfl ?_
          | refine y_block ?_ | refine y_label ?_ | refine y_ret ?_ | refine y_end ?_)
        -- the record's entry, the end
        refine y_storeC (vs := #[.int .i64 ((addCell A2.p.cn cc).idxOf cc : Int)]) rfl (by rfl) rfl rfl rfl rfl rfl hab.out (by first | kernel_rfl | rfl) (Nat.le_of_ble_eq_true rfl) (by simp [Value.oneCell']) (hfa.out _ _) (fun w9 S9 => ?_)
        try walk_nrm
        simp only [putAt, List.setIfInBounds_toArray, List.set_cons_succ, List.set_cons_zero] at S9
        have hab9 : w9.heap[A2.ab j]? = some (.cells ((⟨4, cc, arg, 0⟩ : Acc).done j ((addCell A2.p.cn cc).idxOf cc) (A2.p.cv cc)).cells.toArray 194) := S9.is
        have R9 : ∀ b, b ≠ A2.ab j → b ≠ cc → b ≠ A2.mb → w9.heap[b]? = w3.heap[b]? := fun b h1 h2 h3 => (S9.other b h1).trans (R8.out b h1 h2 h3)
        have hm9 : w9.heap[A2.mb]? = some (.map (entriesOf (addCell A2.p.cn cc)) (addCell A2.p.cn cc).length) := (S9.other _ nm).trans hm8.out
        have k9 : CellIs w9 cc ((⟨4, cc, arg, 0⟩ : Acc).now (A2.p.cv cc)) := (S9.other _ ncc.symm).trans k8.out
        have z9 : w9.heap.size = w3.heap.size := S9.size.trans z8.out
        clear S9 R8 hm8 k8 z8 hab d0 d1 d2
        have ntm : A2.tb j ≠ A2.mb := ne_of_obj ht2.out M2.out.mapo (by simp [thrObj])
        have nRm : A2.R ≠ A2.mb := ne_of_obj M2.out.runs M2.out.mapo (by simp [runObj])
        have rw9 : ∀ b, b < w9.heap.size → b < w3.heap.size := fun b h => by omega
        have hS0 : w9.cell? ⟨A2.tb j, 0, none⟩ = some (.pointer (some ⟨A2.R, 0, none⟩)) := (cell?_of_block (R9 _ ntb ntc ntm)).trans c0
        have hS2 : w9.cell? ⟨A2.R, 2, none⟩ = some A2.logv := (cell?_of_block (R9 _ nR nRc nRm)).trans r2
        have r9 := row8 (x0 := .int .i64 j) (x1 := .int .i8 4) (x2 := .int .i64 ((addCell A2.p.cn cc).idxOf cc : Int)) (x3 := .int .i64 arg) (x4 := .int .i64 0) (x5 := .int .i64 (A2.p.cv cc)) (x6 := .int .i64 ((⟨4, cc, arg, 0⟩ : Acc).now (A2.p.cv cc))) (x7 := .bool ((⟨4, cc, arg, 0⟩ : Acc).ok (A2.p.cv cc))) hab9
        have hSL : SLog (A2.tb j) A2.R (A2.ab j) A2.logv (.int .i64 j) (.int .i8 4) (.int .i64 ((addCell A2.p.cn cc).idxOf cc : Int)) (.int .i64 arg) (.int .i64 0) (.int .i64 (A2.p.cv cc)) (.int .i64 ((⟨4, cc, arg, 0⟩ : Acc).now (A2.p.cv cc))) (.bool ((⟨4, cc, arg, 0⟩ : Acc).ok (A2.p.cv cc))) w9 := ⟨hS0, hS2, r9⟩
        have hSLk := Keep.mk hSL
        replace hab9 := Keep.mk hab9
        replace R9 := Keep.mk R9
        replace hm9 := Keep.mk hm9
        replace k9 := Keep.mk k9
        replace z9 := Keep.mk z9
        replace rw9 := Keep.mk rw9
        repeat (first
          | refine y_go rfl ?_
          | (refine y_region ?_; simp only [rg, Nat.reduceAdd, List.range, List.range.loop])
          | (refine y_nw rfl (by rfl) rfl (by exact nx rfl) (fun dd hS K hK => ?_); go_simp; refine hK _ _ _ ?_; clear hK K hS dd; simp only [recOf]; try walk_nrm)
          | (refine y_unwanted rfl (by rfl) ?_; try walk_nrm) | refine y_condT rfl ?_ | refine y_condF rfl ?_
          | refine y_block ?_ | refine y_label ?_ | refine y_ret ?_ | refine y_end ?_)
        refine y_drawnQ (fun _ w' => SLog (A2.tb j) A2.R (A2.ab j) A2.logv (.int .i64 j) (.int .i8 4) (.int .i64 ((addCell A2.p.cn cc).idxOf cc : Int)) (.int .i64 arg) (.int .i64 0) (.int .i64 (A2.p.cv cc)) (.int .i64 ((⟨4, cc, arg, 0⟩ : Acc).now (A2.p.cv cc))) (.bool ((⟨4, cc, arg, 0⟩ : Acc).ok (A2.p.cv cc))) w') (fun j => j == 16) (by kernel_rfl) rfl ?_
        simp only [List.size_toArray, List.length_cons, List.length_nil, Nat.reduceAdd, Nat.reduceSub, Nat.zero_add, Array.replicate_succ, Array.replicate_zero, List.push_toArray, List.append_toArray, List.nil_append, List.cons_append, List.append_nil]
        first | (apply anyX_tW (i := 0) rfl; (focus rfl); (focus (exact nx rfl)); (focus (rintro σ' w' ⟨s8, s9, s0, s1, s2, s3, s4, s5, s6, s7⟩ d K hK; go_simp; exact hK)); (focus kernel_rfl); (focus (exact hSL))) | (refine anyX_tU (i := 0) rfl rfl (by kernel_rfl) (by exact hSL) ?_)
        try walk_nrm
        first | (apply anyX_tW (i := 1) rfl; (focus rfl); (focus (exact nx rfl)); (focus (rintro σ' w' ⟨s8, s9, s0, s1, s2, s3, s4, s5, s6, s7⟩ d K hK; go_simp; exact hK)); (focus kernel_rfl); (focus (exact hSL))) | (refine anyX_tU (i := 1) rfl rfl (by kernel_rfl) (by exact hSL) ?_)
        try walk_nrm
        first | (apply anyX_tW (i := 2) rfl; (focus rfl); (focus (exact nx rfl)); (focus (rintro σ' w' ⟨s8, s9, s0, s1, s2, s3, s4, s5, s6, s7⟩ d K hK; go_simp; exact hK)); (focus kernel_rfl); (focus (exact hSL))) | (refine anyX_tU (i := 2) rfl rfl (by kernel_rfl) (by exact hSL) ?_)
        try walk_nrm
        first | (apply anyX_tW (i := 3) rfl; (focus rfl); (focus (exact nx rfl)); (focus (rintro σ' w' ⟨s8, s9, s0, s1, s2, s3, s4, s5, s6, s7⟩ d K hK; go_simp; exact hK)); (focus kernel_rfl); (focus (exact hSL))) | (refine anyX_tU (i := 3) rfl rfl (by kernel_rfl) (by exact hSL) ?_)
        try walk_nrm
        first | (apply anyX_tW (i := 4) rfl; (focus rfl); (focus (exact nx rfl)); (focus (rintro σ' w' ⟨s8, s9, s0, s1, s2, s3, s4, s5, s6, s7⟩ d K hK; go_simp; exact hK)); (focus kernel_rfl); (focus (exact hSL))) | (refine anyX_tU (i := 4) rfl rfl (by kernel_rfl) (by exact hSL) ?_)
        try walk_nrm
        first | (apply anyX_tW (i := 5) rfl; (focus rfl); (focus (exact nx rfl)); (focus (rintro σ' w' ⟨s8, s9, s0, s1, s2, s3, s4, s5, s6, s7⟩ d K hK; go_simp; exact hK)); (focus kernel_rfl); (focus (exact hSL))) | (refine anyX_tU (i := 5) rfl rfl (by kernel_rfl) (by exact hSL) ?_)
        try walk_nrm
        first | (apply anyX_tW (i := 6) rfl; (focus rfl); (focus (exact nx rfl)); (focus (rintro σ' w' ⟨s8, s9, s0, s1, s2, s3, s4, s5, s6, s7⟩ d K hK; go_simp; exact hK)); (focus kernel_rfl); (focus (exact hSL))) | (refine anyX_tU (i := 6) rfl rfl (by kernel_rfl) (by exact hSL) ?_)
        try walk_nrm
        first | (apply anyX_tW (i := 7) rfl; (focus rfl); (focus (exact nx rfl)); (focus (rintro σ' w' ⟨s8, s9, s0, s1, s2, s3, s4, s5, s6, s7⟩ d K hK; go_simp; exact hK)); (focus kernel_rfl); (focus (exact hSL))) | (refine anyX_tU (i := 7) rfl rfl (by kernel_rfl) (by exact hSL) ?_)
        try walk_nrm
        first | (apply anyX_tW (i := 8) rfl; (focus rfl); (focus (exact nx rfl)); (focus (rintro σ' w' ⟨s8, s9, s0, s1, s2, s3, s4, s5, s6, s7⟩ d K hK; go_simp; exact hK)); (focus kernel_rfl); (focus (exact hSL))) | (refine anyX_tU (i := 8) rfl rfl (by kernel_rfl) (by exact hSL) ?_)
        try walk_nrm
        first | (apply anyX_tW (i := 9) rfl; (focus rfl); (focus (exact nx rfl)); (focus (rintro σ' w' ⟨s8, s9, s0, s1, s2, s3, s4, s5, s6, s7⟩ d K hK; go_simp; exact hK)); (focus kernel_rfl); (focus (exact hSL))) | (refine anyX_tU (i := 9) rfl rfl (by kernel_rfl) (by exact hSL) ?_)
        try walk_nrm
        first | (apply anyX_tW (i := 10) rfl; (focus rfl); (focus (exact nx rfl)); (focus (rintro σ' w' ⟨s8, s9, s0, s1, s2, s3, s4, s5, s6, s7⟩ d K hK; go_simp; exact hK)); (focus kernel_rfl); (focus (exact hSL))) | (refine anyX_tU (i := 10) rfl rfl (by kernel_rfl) (by exact hSL) ?_)
        try walk_nrm
        first | (apply anyX_tW (i := 11) rfl; (focus rfl); (focus (exact nx rfl)); (focus (rintro σ' w' ⟨s8, s9, s0, s1, s2, s3, s4, s5, s6, s7⟩ d K hK; go_simp; exact hK)); (focus kernel_rfl); (focus (exact hSL))) | (refine anyX_tU (i := 11) rfl rfl (by kernel_rfl) (by exact hSL) ?_)
        try walk_nrm
        have B10 := Bigger.alloc w9 (.cells #[.int .i64 j, .int .i8 4, .int .i64 ((addCell A2.p.cn cc).idxOf cc : Int), .int .i64 arg, .int .i64 0, .int .i64 (A2.p.cv cc), .int .i64 ((⟨4, cc, arg, 0⟩ : Acc).now (A2.p.cv cc)), .bool ((⟨4, cc, arg, 0⟩ : Acc).ok (A2.p.cv cc))] 194)
        refine anyX_one (i := 12) (by kernel_rfl) (opX_nw rfl (by rfl) (by exact nx rfl) (fun dd hS K' hK' => ?_))
        go_simp
        refine hK' _ _ _ ?_
        clear hK' K' hS dd
        refine ⟨fun _ => hSLk.out.big B10, ?_⟩
        try walk_nrm
        have n10 := cells_new w9 [.int .i64 j, .int .i8 4, .int .i64 ((addCell A2.p.cn cc).idxOf cc : Int), .int .i64 arg, .int .i64 0, .int .i64 (A2.p.cv cc), .int .i64 ((⟨4, cc, arg, 0⟩ : Acc).now (A2.p.cv cc)), .bool ((⟨4, cc, arg, 0⟩ : Acc).ok (A2.p.cv cc))] 194
        have z10 : (w9.alloc (.cells #[.int .i64 j, .int .i8 4, .int .i64 ((addCell A2.p.cn cc).idxOf cc : Int), .int .i64 arg, .int .i64 0, .int .i64 (A2.p.cv cc), .int .i64 ((⟨4, cc, arg, 0⟩ : Acc).now (A2.p.cv cc)), .bool ((⟨4, cc, arg, 0⟩ : Acc).ok (A2.p.cv cc))] 194)).heap.size = w9.heap.size + 1 := Array.size_push _
        generalize w9.alloc (.cells #[.int .i64 j, .int .i8 4, .int .i64 ((addCell A2.p.cn cc).idxOf cc : Int), .int .i64 arg, .int .i64 0, .int .i64 (A2.p.cv cc), .int .i64 ((⟨4, cc, arg, 0⟩ : Acc).now (A2.p.cv cc)), .bool ((⟨4, cc, arg, 0⟩ : Acc).ok (A2.p.cv cc))] 194) = w10 at n10 B10 z10 ⊢
        have nlog : ∀ {b : Nat} {o : Obj}, w3.heap[b]? = some o → (∀ x y, o ≠ .cells x 194 y) → A2.logv.ownBlock ≠ some b := fun hb n1 h => by
          obtain ⟨_, _, cur, hcur⟩ := row_ty M2.out.logs h
          exact ne_of_obj hb hcur (n1 _ _) rfl
        have nlab : A2.logv.ownBlock ≠ some (A2.ab j) := M2.out.apart.2.2 j _ hj2 (by simp) hs2.out hst2
        have ltlog : ∀ b, A2.logv.ownBlock = some b → b < w3.heap.size := fun b h => (row_ty M2.out.logs h).2.1
        have own10 : w10.ownsRow 0 194 8 A2.logv A2.p.log.length (flatLog A2.p.log) := row_later M2.out.logs fun b h => by
          refine (B10.old b (by have := ltlog b h; have := z9.out; omega)).trans (R9.out b (fun e => nlab (e ▸ h)) (fun e => ?_) (fun e => ?_))
          · exact nlog (M2.out.cell _ hcc.out).obj (by simp [cellObj]) (e ▸ h)
          · exact nlog M2.out.mapo (by simp) (e ▸ h)
        have hflog : (cfgOf A2 (some j) gs2 gm2 os2 out2).Free (fun c => some c = A2.logv.ownBlock) := fun i s hs => ⟨fun h => by
            obtain ⟨_, _, cur, hcur⟩ := row_ty M2.out.logs h.symm
            exact (hfree.out _ _ hcur (by simp) (by simp) (by simp) i s hs).1 rfl, fun p hp h => by
            obtain ⟨_, _, cur, hcur⟩ := row_ty M2.out.logs h.symm
            exact (hfree.out _ _ hcur (by simp) (by simp) (by simp) i s hs).2 p hp rfl⟩
        obtain ⟨i0, hi, hz0, hz1, hz2⟩ := info_parts (P := Try.prog) (e := 194) (z := .agg #[.int .i64 0, .int .i8 0, .int .i64 0, .int .i64 0, .int .i64 0, .int .i64 0, .int .i64 0, .bool false]) (size := 8) (bytes := 64) (by kernel_rfl)
        refine anyX_one (i := 13) (by kernel_rfl) (opX_append (size := 8) (bytes := 64) rfl (by rfl) rfl Try.underlying41 hi hz0 hz1 hz2 rfl (by decide) 0 rfl own10 rfl rfl n10 (fun x hx => by simp at hx; rcases hx with rfl | rfl | rfl | rfl | rfl | rfl | rfl | rfl <;> rfl) (by unfold maxLen; omega) (by omega) (Nat.zero_le _) hflog ?_)
        intro logv' w11 own11 g11 _ b11
        have old11 : ∀ b, b < w3.heap.size → A2.logv.ownBlock ≠ some b → w11.heap[b]? = w9.heap[b]? := fun b hb hl => (g11.block b (by have := z9.out; omega) (fun h => hl h.symm)).trans (B10.old b (by have := z9.out; omega))
        have hSL11 := hSLk.out.old (old11 _ (lt_of_get ht2.out) (nlog ht2.out (by simp [thrObj]))) (old11 _ (lt_of_get M2.out.runs) (nlog M2.out.runs (by simp [runObj]))) (old11 _ (by have := lt_of_get hab9.out; have := z9.out; omega) nlab)
        have hR11 : w11.heap[A2.R]? = some (.cells #[A2.thv, .map (some A2.mb), A2.logv, A2.wentv, A2.readyv, A2.fellv, .bool A2.stops] 200) := (old11 _ (lt_of_get M2.out.runs) (nlog M2.out.runs (by simp [runObj]))).trans ((R9.out _ nR nRc nRm).trans M2.out.runs)
        have sz11 : w3.heap.size ≤ w11.heap.size := by have := g11.size; have := z9.out; omega
        refine ⟨fun _ => hSL11, ?_⟩
        walk_nrm
        refine anyX_one (i := 14) (by kernel_rfl) (opX_nw rfl (by rfl) (by exact nx rfl) (fun dd hS K' hK' => ?_))
        go_simp
        refine hK' _ _ _ ?_
        clear hK' K' hS dd
        refine ⟨fun _ => hSL11, ?_⟩
        try walk_nrm
        refine anyX_one (i := 15) (by kernel_rfl) (opX_nw rfl (by rfl) (by exact nx rfl) (fun dd hS K' hK' => ?_))
        go_simp
        refine hK' _ _ _ ?_
        clear hK' K' hS dd
        refine ⟨fun _ => hSL11, ?_⟩
        try walk_nrm
        obtain ⟨bo, cp, rfl⟩ := row_slice own11
        refine anyX_one (i := 16) (by kernel_rfl) (opX_storeC (vs := #[.slice bo (A2.p.log.length + 1) cp]) rfl (by rfl) rfl rfl rfl rfl hR11 (by first | kernel_rfl | rfl) (Nat.le_of_ble_eq_true rfl) (by simp [Value.oneCell']) (Cfg.Free.cells (hfree.out _ _ M2.out.runs (by simp [runObj]) (by simp [runObj]) (by simp [runObj]))) (fun w12 S12 => ?_))
        refine ⟨fun h => absurd h (by simp), ?_⟩
        try walk_nrm
        simp only [putAt, List.setIfInBounds_toArray, List.set_cons_succ, List.set_cons_zero] at S12
        refine anyX_end (by kernel_rfl) ?_
        have nRl : ∀ b, A2.R = b → A2.logv.ownBlock ≠ some b := fun b e => e ▸ nlog M2.out.runs (by simp [runObj])
        have own12 : w12.ownsRow 0 194 8 (.slice bo (A2.p.log.length + 1) cp) (A2.p.log.length + 1) (flatLog A2.p.log ++ ((⟨4, cc, arg, 0⟩ : Acc).done j ((addCell A2.p.cn cc).idxOf cc) (A2.p.cv cc)).cells) := row_later own11 fun b h => S12.other b fun e => by
          obtain ⟨_, _, cur, hcur⟩ := row_ty own11 h
          exact ne_of_obj hcur hR11 (by simp) e
        have hnew : ∀ b, (Value.slice bo (A2.p.log.length + 1) cp).ownBlock = some b → A2.logv.ownBlock = some b ∨ w3.heap.size ≤ b := fun b h => by
          rcases b11 with e | e
          · exact .inl (e ▸ h)
          · rw [e] at h; have := Option.some.inj h; have := z9.out; exact .inr (by omega)
        have old12 : ∀ b, b < w3.heap.size → b ≠ cc → b ≠ A2.mb → b ≠ A2.R → b ≠ A2.ab j → A2.logv.ownBlock ≠ some b → w12.heap[b]? = w3.heap[b]? := fun b hb h1 h2 h3 h4 h5 => (S12.other b h3).trans ((old11 b hb h5).trans (R9.out b h4 h1 h2))
        have sz12 : w3.heap.size ≤ w12.heap.size := by rw [S12.size]; exact sz11
        have hab12 : w12.heap[A2.ab j]? = _ := (S12.other _ nR.symm).trans ((old11 _ (by have := lt_of_get hab9.out; have := z9.out; omega) nlab).trans hab9.out)
        have k12 : CellIs w12 cc ((⟨4, cc, arg, 0⟩ : Acc).now (A2.p.cv cc)) := (S12.other _ nRc.symm).trans ((old11 cc (by have := k9.out.lt; have := z9.out; omega) (nlog (M2.out.cell _ hcc.out).obj (by simp [cellObj]))).trans k9.out)
        have hm12 : w12.heap[A2.mb]? = _ := (S12.other _ nRm.symm).trans ((old11 _ (lt_of_get M2.out.mapo) (nlog M2.out.mapo (by simp))).trans hm9.out)
        have M12 : GMem (A2.logged j ⟨4, cc, arg, 0⟩ (.slice bo (A2.p.log.length + 1) cp)) (some j) w12 := GMem.accd M3.out hj2 hcc.out hlog2 sz12 k12 hm12 S12.is own12 hnew ⟨#[.int .i8 4, .int .i64 (-1), .int .i64 arg, .int .i64 0, .int .i64 0, .int .i64 0, .bool false], by rw [(M2.out.stand j _ hj2 (by simp) hs2.out).2.2.2.2 hst2]; simp [Acc.stand, Entry.cells]⟩ nlab fun b hb _ h1 h2 h3 h4 h5 => old12 b hb h1 h2 h3 h4 h5
        obtain ⟨oR, omb, oc, _, ol, _, _, _, oj⟩ := M2.out.owns
        have oab := (oj j hj2).2.2.2.2.2.2 _ (by simp) hs2.out
        have I12 : C.I kap2 s2 A2.p (A2.logged j ⟨4, cc, arg, 0⟩ (.slice bo (A2.p.log.length + 1) cp)).own w12 := C.stable hI2.out sz12 fun b hb hn => ⟨old12 b hb (fun e => hn (e ▸ oc _ hcc.out)) (fun e => hn (e ▸ omb)) (fun e => hn (e ▸ oR)) (fun e => hn (e ▸ oab)) (fun h => hn (ol b h)), fun h => h.elim hn fun h => (hnew b h).elim (fun h => hn (ol b h)) fun h => by omega⟩
        have BB := B2.out.logged (wf := w12) sz12 hnew fun b hb _ hg => old12 b hb (fun e => hg (.inr (.inr (.inr (.inr (.inr (.inl (e ▸ hcc.out)))))))) (fun e => hg (.inr (.inl e))) (fun e => hg (.inl e)) (fun e => hg (.inr (.inr (.inr (.inr (.inr (.inr (.inr e)))))))) (fun h => hg (.inr (.inr (.inr (.inr (.inr (.inr (.inl h))))))))
        have r12 := row8 (x0 := .int .i64 j) (x1 := .int .i8 4) (x2 := .int .i64 ((addCell A2.p.cn cc).idxOf cc : Int)) (x3 := .int .i64 arg) (x4 := .int .i64 0) (x5 := .int .i64 (A2.p.cv cc)) (x6 := .int .i64 ((⟨4, cc, arg, 0⟩ : Acc).now (A2.p.cv cc))) (x7 := .bool ((⟨4, cc, arg, 0⟩ : Acc).ok (A2.p.cv cc))) hab12
        clear old12 hnew hab12 own12 hm12 k12 S12 old11 own11 hR11 g11 hSL hSLk hSL11 hflog own10 nlog ltlog n10 B10 hS0 hS2 r9 hi hz0 hz1 hz2
        replace M12 := Keep.mk M12
        replace I12 := Keep.mk I12
        replace BB := Keep.mk BB
        replace oR := Keep.mk oR
        replace omb := Keep.mk omb
        replace oc := Keep.mk oc
        replace ol := Keep.mk ol
        replace oj := Keep.mk oj
        replace oab := Keep.mk oab
        replace sz12 := Keep.mk sz12
        replace nRl := Keep.mk nRl
        replace b11 := Keep.mk b11
        replace rw9 := Keep.mk rw9
        repeat (first
          | refine y_go rfl ?_
          | (refine y_region ?_; simp only [rg, Nat.reduceAdd, List.range, List.range.loop])
          | (refine y_nw rfl (by rfl) rfl (by exact nx rfl) (fun dd hS K hK => ?_); go_simp; refine hK _ _ _ ?_; clear hK K hS dd; simp only [recOf]; try walk_nrm)
          | (refine y_unwanted rfl (by rfl) ?_; try walk_nrm) | refine y_condT rfl ?_ | refine y_condF rfl ?_
          | refine y_block ?_ | refine y_label ?_ | refine y_ret ?_ | refine y_end ?_)
        refine y_drawnQ (fun _ w' => Row8 w' (A2.ab j) (.int .i64 j) (.int .i8 4) (.int .i64 ((addCell A2.p.cn cc).idxOf cc : Int)) (.int .i64 arg) (.int .i64 0) (.int .i64 (A2.p.cv cc)) (.int .i64 ((⟨4, cc, arg, 0⟩ : Acc).now (A2.p.cv cc))) (.bool ((⟨4, cc, arg, 0⟩ : Acc).ok (A2.p.cv cc)))) (fun _ => false) (by kernel_rfl) rfl ?_
        simp only [List.size_toArray, List.length_cons, List.length_nil, Nat.reduceAdd, Nat.reduceSub, Nat.zero_add, Array.replicate_succ, Array.replicate_zero, List.push_toArray, List.append_toArray, List.nil_append, List.cons_append, List.append_nil]
        first | (apply anyX_tW (i := 0) rfl; (focus rfl); (focus (exact nx rfl)); (focus (rintro σ' w' ⟨s0, s1, s2, s3, s4, s5, s6, s7⟩ d K hK; go_simp; exact hK)); (focus kernel_rfl); (focus (exact r12))) | (refine anyX_tU (i := 0) rfl rfl (by kernel_rfl) (by exact r12) ?_)
        try walk_nrm
        first | (apply anyX_tW (i := 1) rfl; (focus rfl); (focus (exact nx rfl)); (focus (rintro σ' w' ⟨s0, s1, s2, s3, s4, s5, s6, s7⟩ d K hK; go_simp; exact hK)); (focus kernel_rfl); (focus (exact r12))) | (refine anyX_tU (i := 1) rfl rfl (by kernel_rfl) (by exact r12) ?_)
        try walk_nrm
        first | (apply anyX_tW (i := 2) rfl; (focus rfl); (focus (exact nx rfl)); (focus (rintro σ' w' ⟨s0, s1, s2, s3, s4, s5, s6, s7⟩ d K hK; go_simp; exact hK)); (focus kernel_rfl); (focus (exact r12))) | (refine anyX_tU (i := 2) rfl rfl (by kernel_rfl) (by exact r12) ?_)
        try walk_nrm
        first | (apply anyX_tW (i := 3) rfl; (focus rfl); (focus (exact nx rfl)); (focus (rintro σ' w' ⟨s0, s1, s2, s3, s4, s5, s6, s7⟩ d K hK; go_simp; exact hK)); (focus kernel_rfl); (focus (exact r12))) | (refine anyX_tU (i := 3) rfl rfl (by kernel_rfl) (by exact r12) ?_)
        try walk_nrm
        first | (apply anyX_tW (i := 4) rfl; (focus rfl); (focus (exact nx rfl)); (focus (rintro σ' w' ⟨s0, s1, s2, s3, s4, s5, s6, s7⟩ d K hK; go_simp; exact hK)); (focus kernel_rfl); (focus (exact r12))) | (refine anyX_tU (i := 4) rfl rfl (by kernel_rfl) (by exact r12) ?_)
        try walk_nrm
        first | (apply anyX_tW (i := 5) rfl; (focus rfl); (focus (exact nx rfl)); (focus (rintro σ' w' ⟨s0, s1, s2, s3, s4, s5, s6, s7⟩ d K hK; go_simp; exact hK)); (focus kernel_rfl); (focus (exact r12))) | (refine anyX_tU (i := 5) rfl rfl (by kernel_rfl) (by exact r12) ?_)
        try walk_nrm
        first | (apply anyX_tW (i := 6) rfl; (focus rfl); (focus (exact nx rfl)); (focus (rintro σ' w' ⟨s0, s1, s2, s3, s4, s5, s6, s7⟩ d K hK; go_simp; exact hK)); (focus kernel_rfl); (focus (exact r12))) | (refine anyX_tU (i := 6) rfl rfl (by kernel_rfl) (by exact r12) ?_)
        try walk_nrm
        first | (apply anyX_tW (i := 7) rfl; (focus rfl); (focus (exact nx rfl)); (focus (rintro σ' w' ⟨s0, s1, s2, s3, s4, s5, s6, s7⟩ d K hK; go_simp; exact hK)); (focus kernel_rfl); (focus (exact r12))) | (refine anyX_tU (i := 7) rfl rfl (by kernel_rfl) (by exact r12) ?_)
        try walk_nrm
        first | (apply anyX_tW (i := 8) rfl; (focus rfl); (focus (exact nx rfl)); (focus (rintro σ' w' ⟨s0, s1, s2, s3, s4, s5, s6, s7⟩ d K hK; go_simp; exact hK)); (focus kernel_rfl); (focus (exact r12))) | (refine anyX_tU (i := 8) rfl rfl (by kernel_rfl) (by exact r12) ?_)
        try walk_nrm
        refine anyX_end (by kernel_rfl) ?_
        repeat (first
          | refine y_go rfl ?_
          | (refine y_region ?_; simp only [rg, Nat.reduceAdd, List.range, List.range.loop])
          | (refine y_nw rfl (by rfl) rfl (by exact nx rfl) (fun dd hS K hK => ?_); go_simp; refine hK _ _ _ ?_; clear hK K hS dd; simp only [recOf]; try walk_nrm)
          | (refine y_unwanted rfl (by rfl) ?_; try walk_nrm) | refine y_condT rfl ?_ | refine y_condF rfl ?_
          | refine y_block ?_ | refine y_label ?_ | refine y_ret ?_ | refine y_end ?_)
        refine y_leave rfl rfl Try.func140 (resultsC_tmp3 rfl _) (H.out _ _ _ ?_)
        exact ⟨A2.p, kap2, s2, _, n, hnm, hk2.out, hs2.out, hpk.out, I12.out, rfl, eHome.out, ⟨gs2, gm2, os2, out2, rfl, h02, M12.out, hj2, hst2, by show A2.p.st j ≠ .ended; rw [hs2.out]; simp, BB.out⟩, rfl⟩
  exact HP m (Nat.le_refl m)

end Go.Proofs.Ytcibnfjpagmdaaa
