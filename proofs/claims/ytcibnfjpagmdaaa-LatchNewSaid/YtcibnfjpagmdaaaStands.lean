/- A thread stands at an access. -/
import Derived.Test.YtcibnfjpagmdaaaGoes
set_option linter.unusedSimpArgs false
set_option linter.unusedVariables false
set_option maxRecDepth 100000
set_option maxHeartbeats 2000000
namespace Go.Proofs.Ytcibnfjpagmdaaa
open Go.TX Go.Conc Go.RowKit Go.MapKept
open Go.ConcN (upd upd_ne upd_same)
variable {Fin : Machine → Trace → Prop} {A A' : GA} {j : Nat} {gs : Nat → Goroutine} {gm gj : Goroutine} {os : Os} {out : Array (Nat × ByteArray)} {w : World} {σ : Cfg}

theorem back_cfg (h0 : 0 < A.n0) (hj : j < A.p.nth) {s : Phase} (hl : s.lives = true) (hp : A'.p = A.p.put j s) (hn : A'.n0 = A.n0) (hwk : A'.wk = A.wk) (htb : A'.tb = A.tb) (htc : A'.tc = A.tc) :
    (cfgOf A (some j) gs gm os out).gave 0 (some (seatT A gj j)) = cfgOf A' none (setAt gs j gj) gm os out := by
  unfold Cfg.gave cfgOf
  have hnth : A'.p.nth = A.p.nth := by rw [hp]; rfl
  simp only [Cfg.mk.injEq, true_and, and_true, hn, hnth]
  funext x
  by_cases e2 : x = A.n0 + j
  · subst e2; rw [upd_same]
    have : ¬ (A.n0 + j = 0) := by omega
    simp [seatOf, hn, hnth, hj, hp, Pub.put, hl, seatT, hwk, htb, htc]
    omega
  · rw [upd_ne _ _ e2]
    by_cases e : x = 0
    · subst e; rw [upd_same]; simp [seatOf]
    · rw [upd_ne _ _ e]
      simp only [seatOf, e, if_false, hn, hnth, hp, Pub.put]
      by_cases e3 : A.n0 ≤ x
      · have h4 : x - A.n0 ≠ j := by omega
        have h5 : some j ≠ some (x - A.n0) := fun h => h4 (Option.some.inj h).symm
        simp [e3, setAt_ne _ _ h4, h4, Ne.symm h4, seatT, hwk, htb, htc]
      · simp [e3]
/-- .. and where the thread ends. -/
theorem end_cfg (h0 : 0 < A.n0) (hj : j < A.p.nth) (hp : A'.p = A.p.put j .ended) (hn : A'.n0 = A.n0) (hwk : A'.wk = A.wk) (htb : A'.tb = A.tb) (htc : A'.tc = A.tc) :
    (cfgOf A (some j) gs gm os out).gave 0 none = cfgOf A' none (setAt gs j gj) gm os out := by
  unfold Cfg.gave cfgOf
  have hnth : A'.p.nth = A.p.nth := by rw [hp]; rfl
  simp only [Cfg.mk.injEq, true_and, and_true, hn, hnth]
  funext x
  by_cases e2 : x = A.n0 + j
  · subst e2; rw [upd_same]
    have : ¬ (A.n0 + j = 0) := by omega
    simp [seatOf, this, hn, hnth, hj, hp, Pub.put, Phase.lives]
  · rw [upd_ne _ _ e2]
    by_cases e : x = 0
    · subst e; rw [upd_same]; simp [seatOf]
    · rw [upd_ne _ _ e]
      simp only [seatOf, e, if_false, hn, hnth, hp, Pub.put]
      by_cases e3 : A.n0 ≤ x
      · have h4 : x - A.n0 ≠ j := by omega
        have h5 : some j ≠ some (x - A.n0) := fun h => h4 (Option.some.inj h).symm
        simp [e3, setAt_ne _ _ h4, h4, Ne.symm h4, seatT, hwk, htb, htc]
      · simp [e3]

theorem put_v (R j wk sd : Nat) (pv : Option Nat) (e : Entry) (en : Bool) (c : Nat) : putAt (thrCells R j wk sd pv e en) 4 [.pointer (some ⟨c, 0, none⟩)] = thrCells R j wk sd (some c) e en := by simp [putAt, thrCells]
theorem put_at (R j wk sd : Nat) (pv : Option Nat) (e e' : Entry) (en : Bool) : putAt (thrCells R j wk sd pv e en) 5 e'.cells = thrCells R j wk sd pv e' en := by simp [putAt, thrCells, Entry.cells]
theorem put_end (R j wk sd : Nat) (pv : Option Nat) (e : Entry) (en : Bool) (v : Bool) : putAt (thrCells R j wk sd pv e en) 13 [.bool v] = thrCells R j wk sd pv e v := by simp [putAt, thrCells]

/-- Eight cells from the head of a block on. -/
abbrev Row8 (w : World) (b : Nat) (x0 x1 x2 x3 x4 x5 x6 x7 : Value) : Prop := w.cell? ⟨b, 0, none⟩ = some x0 ∧ w.cell? ⟨b, 1, none⟩ = some x1 ∧ w.cell? ⟨b, 2, none⟩ = some x2 ∧ w.cell? ⟨b, 3, none⟩ = some x3 ∧ w.cell? ⟨b, 4, none⟩ = some x4 ∧ w.cell? ⟨b, 5, none⟩ = some x5 ∧ w.cell? ⟨b, 6, none⟩ = some x6 ∧ w.cell? ⟨b, 7, none⟩ = some x7
theorem row8 {b : Nat} {x0 x1 x2 x3 x4 x5 x6 x7 : Value} {e : TypeId} (h : w.heap[b]? = some (.cells #[x0, x1, x2, x3, x4, x5, x6, x7] e)) : Row8 w b x0 x1 x2 x3 x4 x5 x6 x7 := by
  refine ⟨?_, ?_, ?_, ?_, ?_, ?_, ?_, ?_⟩ <;> (unfold World.cell?; rw [h]; rfl)

theorem stands_core {c : Frame} {cs : List Frame} {a : Acc} (h0 : 0 < A.n0) (M : GMem A (some j) w) (hj : j < A.p.nth) (hst : A.stops = false)
    (hX : ∀ gj k w0 w1 w2, Bigger w w0 → SetB w0 w1 (A.tb j) (.cells (thrCells A.R j (A.wk j) (A.sd j) (some a.cell) (a.stand j) (decide (A.p.st j = .ended))) 205) → SetB w1 w2 (A.sd j) (.chan 0 #[] false k k false) →
      (∀ σ' w', w'.cell? ⟨A.tb j, 0, none⟩ = some (.pointer (some ⟨A.R, 0, none⟩)) → w'.cell? ⟨A.R, 6, none⟩ = some (.bool false) → X Try.prog Fin σ' (G (c.finish (.tuple #[])) cs) w' → X Try.prog Fin σ' (Go.Conc.served gj unitV) w') →
      (∀ σ' w', w'.cell? ⟨A.tb j, 0, none⟩ = some (.pointer (some ⟨A.R, 0, none⟩)) → w'.cell? ⟨A.R, 6, none⟩ = some (.bool true) → X Try.prog Fin σ' (G (c.raise [{ v := stopV, recovered := false }]) cs) w' → X Try.prog Fin σ' (Go.Conc.served gj unitV) w') →
      X Try.prog Fin ((cfgOf A (some j) gs gm os out).gave 0 (some (seatT A gj j))) (Go.Conc.served gm unitV) w2) :
    (tokenJ Try.prog Fin).Y (cfgOf A (some j) gs gm os out) (G (Frame.enter Try.prog 179 #[.pointer (some ⟨A.tb j, 0, none⟩), .pointer (some ⟨a.cell, 0, none⟩), .agg (a.stand j).cells.toArray] .normal) (c :: cs)) w := by
  have hseat : (cfgOf A (some j) gs gm os out).seat 0 = some (seatM A gm j) := rfl
  obtain ⟨kw, hkw⟩ := M.wkc j hj
  obtain ⟨ks, hks⟩ := M.sdc j hj
  have hfC : ∀ lo hi, 4 ≤ lo → (cfgOf A (some j) gs gm os out).FreeC (A.tb j) lo hi := fun lo hi h => freeC_tb M rfl hj h
  simp only [Acc.stand, Entry.cells]
  rw [enter_at _ Try.func179 rfl]
  simp only [Try.f179, Try.ntmps179, List.size_toArray, List.length_cons, List.length_nil, Nat.reduceAdd, Nat.reduceSub, Nat.zero_add, Array.replicate_succ, Array.replicate_zero, List.push_toArray, List.append_toArray, List.nil_append, List.cons_append, List.append_nil]
  replace hX := Keep.mk hX
  replace hfC := Keep.mk hfC
  repeat (first | refine y_go rfl ?_ | (refine y_region ?_; simp only [rg, Nat.reduceAdd, List.range, List.range.loop]) | refine y_block ?_ | refine y_label ?_)
  (refine y_nw rfl (by rfl) rfl (by exact nx rfl) (fun dd hS K hK => ?_); go_simp; refine hK _ _ _ ?_; clear hK K hS dd; simp only [recOf]; try walk_nrm)
  have B0 := Bigger.alloc w (.cells #[.int .i64 j, .int .i8 a.op, .int .i64 (-1), .int .i64 a.arg, .int .i64 a.new, .int .i64 0, .int .i64 0, .bool false] 194)
  have bx := (heap_alloc w (.cells #[.int .i64 j, .int .i8 a.op, .int .i64 (-1), .int .i64 a.arg, .int .i64 a.new, .int .i64 0, .int .i64 0, .bool false] 194)).1
  generalize w.alloc (.cells #[.int .i64 j, .int .i8 a.op, .int .i64 (-1), .int .i64 a.arg, .int .i64 a.new, .int .i64 0, .int .i64 0, .bool false] 194) = w0 at B0 bx ⊢
  have ht := B0.is (M.thr j hj)
  have hR := B0.is M.runs
  have c0 : w0.cell? ⟨A.tb j, 0, none⟩ = some (.pointer (some ⟨A.R, 0, none⟩)) := by unfold World.cell?; rw [ht]; rfl
  have r6 : w0.cell? ⟨A.R, 6, none⟩ = some (.bool false) := by unfold World.cell?; rw [hR, ← hst]; rfl
  have hbx := row8 bx
  have hbt : w.heap.size ≠ A.tb j := fun e => by have := lt_of_get (M.thr j hj); omega
  replace ht := Keep.mk ht
  replace hR := Keep.mk hR
  replace bx := Keep.mk bx
  repeat (first
    | refine y_go rfl ?_
    | (refine y_region ?_; simp only [rg, Nat.reduceAdd, List.range, List.range.loop])
    | (refine y_nw rfl (by rfl) rfl (by exact nx rfl) (fun dd hS K hK => ?_); go_simp; refine hK _ _ _ ?_; clear hK K hS dd; simp only [recOf]; try walk_nrm)
    | (refine y_unwanted rfl (by rfl) ?_; try walk_nrm) | refine y_condT rfl ?_ | refine y_condF rfl ?_
    | refine y_block ?_ | refine y_label ?_ | refine y_ret ?_ | refine y_end ?_)
  refine y_drawnQ (fun _ w' => Row8 w' w.heap.size (.int .i64 j) (.int .i8 a.op) (.int .i64 (-1)) (.int .i64 a.arg) (.int .i64 a.new) (.int .i64 0) (.int .i64 0) (.bool false)) (fun _ => false) (by kernel_rfl) rfl ?_
  simp only [List.size_toArray, List.length_cons, List.length_nil, Nat.reduceAdd, Nat.reduceSub, Nat.zero_add, Array.replicate_succ, Array.replicate_zero, List.push_toArray, List.append_toArray, List.nil_append, List.cons_append, List.append_nil]
  first | (apply anyX_tW (i := 0) rfl; (focus rfl); (focus (exact nx rfl)); (focus (rintro σ' w' ⟨s0, s1, s2, s3, s4, s5, s6, s7⟩ d K hK; go_simp; exact hK)); (focus kernel_rfl); (focus (assumption))) | (refine anyX_tU (i := 0) rfl rfl (by kernel_rfl) (by assumption) ?_)
  try walk_nrm
  first | (apply anyX_tW (i := 1) rfl; (focus rfl); (focus (exact nx rfl)); (focus (rintro σ' w' ⟨s0, s1, s2, s3, s4, s5, s6, s7⟩ d K hK; go_simp; exact hK)); (focus kernel_rfl); (focus (assumption))) | (refine anyX_tU (i := 1) rfl rfl (by kernel_rfl) (by assumption) ?_)
  try walk_nrm
  first | (apply anyX_tW (i := 2) rfl; (focus rfl); (focus (exact nx rfl)); (focus (rintro σ' w' ⟨s0, s1, s2, s3, s4, s5, s6, s7⟩ d K hK; go_simp; exact hK)); (focus kernel_rfl); (focus (assumption))) | (refine anyX_tU (i := 2) rfl rfl (by kernel_rfl) (by assumption) ?_)
  try walk_nrm
  first | (apply anyX_tW (i := 3) rfl; (focus rfl); (focus (exact nx rfl)); (focus (rintro σ' w' ⟨s0, s1, s2, s3, s4, s5, s6, s7⟩ d K hK; go_simp; exact hK)); (focus kernel_rfl); (focus (assumption))) | (refine anyX_tU (i := 3) rfl rfl (by kernel_rfl) (by assumption) ?_)
  try walk_nrm
  first | (apply anyX_tW (i := 4) rfl; (focus rfl); (focus (exact nx rfl)); (focus (rintro σ' w' ⟨s0, s1, s2, s3, s4, s5, s6, s7⟩ d K hK; go_simp; exact hK)); (focus kernel_rfl); (focus (assumption))) | (refine anyX_tU (i := 4) rfl rfl (by kernel_rfl) (by assumption) ?_)
  try walk_nrm
  first | (apply anyX_tW (i := 5) rfl; (focus rfl); (focus (exact nx rfl)); (focus (rintro σ' w' ⟨s0, s1, s2, s3, s4, s5, s6, s7⟩ d K hK; go_simp; exact hK)); (focus kernel_rfl); (focus (assumption))) | (refine anyX_tU (i := 5) rfl rfl (by kernel_rfl) (by assumption) ?_)
  try walk_nrm
  refine anyX_one (i := 6) (by kernel_rfl) (opX_storeC (vs := #[.pointer (some ⟨a.cell, 0, none⟩)]) rfl (by rfl) rfl rfl rfl rfl ht.out (by first | kernel_rfl | rfl) (Nat.le_of_ble_eq_true rfl) (by simp [Value.oneCell']) (hfC.out _ _ (by omega)) (fun w1 S1 => ?_))
  refine ⟨fun _ => row8 ((S1.other _ hbt).trans bx.out), ?_⟩
  try walk_nrm
  rw [show (#[Value.pointer (some ⟨a.cell, 0, none⟩)] : Array Value).toList = [.pointer (some ⟨a.cell, 0, none⟩)] from rfl, put_v] at S1
  have hbx1 := row8 ((S1.other _ hbt).trans bx.out)
  first | (apply anyX_tW (i := 7) rfl; (focus rfl); (focus (exact nx rfl)); (focus (rintro σ' w' ⟨s0, s1, s2, s3, s4, s5, s6, s7⟩ d K hK; go_simp; exact hK)); (focus kernel_rfl); (focus (assumption))) | (refine anyX_tU (i := 7) rfl rfl (by kernel_rfl) (by assumption) ?_)
  try walk_nrm
  first | (apply anyX_tW (i := 8) rfl; (focus rfl); (focus (exact nx rfl)); (focus (rintro σ' w' ⟨s0, s1, s2, s3, s4, s5, s6, s7⟩ d K hK; go_simp; exact hK)); (focus kernel_rfl); (focus (assumption))) | (refine anyX_tU (i := 8) rfl rfl (by kernel_rfl) (by assumption) ?_)
  try walk_nrm
  refine anyX_one (i := 9) (by kernel_rfl) (opX_storeC (vs := #[.int .i64 j, .int .i8 a.op, .int .i64 (-1), .int .i64 a.arg, .int .i64 a.new, .int .i64 0, .int .i64 0, .bool false]) rfl (by rfl) rfl rfl rfl rfl S1.is (by first | kernel_rfl | rfl) (Nat.le_of_ble_eq_true rfl) (by simp [Value.oneCell']) (hfC.out _ _ (by omega)) (fun w2 S2 => ?_))
  refine ⟨fun _ => row8 ((S2.other _ hbt).trans ((S1.other _ hbt).trans bx.out)), ?_⟩
  try walk_nrm
  have S : SetB w0 w2 (A.tb j) (.cells (thrCells A.R j (A.wk j) (A.sd j) (some a.cell) (a.stand j) (decide (A.p.st j = .ended))) 205) := by
    have e := put_at A.R j (A.wk j) (A.sd j) (some a.cell) (A.pa j) (a.stand j) (decide (A.p.st j = .ended))
    simp only [Acc.stand, Entry.cells] at e
    rw [show (#[Value.int .i64 (j : Int), .int .i8 (a.op : Int), .int .i64 (-1), .int .i64 a.arg, .int .i64 a.new, .int .i64 0, .int .i64 0, .bool false] : Array Value).toList = [.int .i64 j, .int .i8 a.op, .int .i64 (-1), .int .i64 a.arg, .int .i64 a.new, .int .i64 0, .int .i64 0, .bool false] from rfl, e] at S2
    exact ⟨S2.is, S2.size.trans S1.size, fun c hc => (S2.other c hc).trans (S1.other c hc)⟩
  clear S1 S2 hbx1
  have d2 : w2.cell? ⟨A.tb j, 2, none⟩ = some (.chan (some (A.wk j))) := by unfold World.cell?; rw [S.is]; rfl
  have d3 : w2.cell? ⟨A.tb j, 3, none⟩ = some (.chan (some (A.sd j))) := by unfold World.cell?; rw [S.is]; rfl
  refine anyX_end (by kernel_rfl) ?_
  replace S := Keep.mk S
  replace B0 := Keep.mk B0
  repeat (first
    | refine y_go rfl ?_
    | (refine y_region ?_; simp only [rg, Nat.reduceAdd, List.range, List.range.loop])
    | (refine y_nw rfl (by rfl) rfl (by exact nx rfl) (fun dd hS K hK => ?_); go_simp; refine hK _ _ _ ?_; clear hK K hS dd; simp only [recOf]; try walk_nrm)
    | (refine y_unwanted rfl (by rfl) ?_; try walk_nrm) | refine y_condT rfl ?_ | refine y_condF rfl ?_
    | refine y_block ?_ | refine y_label ?_ | refine y_ret ?_ | refine y_end ?_)
  have hne : ∀ i s', (cfgOf A (some j) gs gm os out).seat i = some s' → s'.c ≠ A.wk j := fun i s' hs => by
    rcases seat_cases hs with ⟨_, i, hi, rfl⟩ | ⟨i, _, hi, hr, _, rfl⟩
    · obtain rfl := Option.some.inj hi; exact M.chans.2 j j hj hj
    · exact fun e => hr (by rw [M.chans.1 i j hi hj e])
  have t2 : w2.cell? ⟨A.tc j, 0, none⟩ = some (.pointer (some ⟨A.tb j, 0, none⟩)) := by
    have h1 := B0.is (M.tcc j hj)
    have h2 : A.tc j ≠ A.tb j := fun e => by have h3 := M.thr j hj; rw [← e, M.tcc j hj] at h3; simp [thrObj] at h3
    have h4 : w2.heap[A.tc j]? = _ := (S.out.other _ h2).trans h1
    unfold World.cell?; rw [h4]; rfl
  have hw2 : ∃ k, w2.heap[A.wk j]? = some (.chan 0 #[] false k k false) := ⟨kw, by
    have h2 : A.wk j ≠ A.tb j := fun e => by have h3 := M.thr j hj; rw [← e, hkw] at h3; simp [thrObj] at h3
    exact (S.out.other _ h2).trans (B0.is hkw)⟩
  have hs2 : w2.heap[A.sd j]? = some (.chan 0 #[] false ks ks false) := by
    have h2 : A.sd j ≠ A.tb j := fun e => by have h3 := M.thr j hj; rw [← e, hks] at h3; simp [thrObj] at h3
    exact (S.out.other _ h2).trans (B0.is hks)
  refine x_send (z' := .tuple #[]) (v := unitV) (c := A.wk j) (z := unitV) (still := (seatT A gm j).still) (Q := fun gj =>
      (∀ σ' w', w'.cell? ⟨A.tb j, 0, none⟩ = some (.pointer (some ⟨A.R, 0, none⟩)) → w'.cell? ⟨A.R, 6, none⟩ = some (.bool false) → X Try.prog Fin σ' (G (c.finish (.tuple #[])) cs) w' → X Try.prog Fin σ' (Go.Conc.served gj unitV) w') ∧
      (∀ σ' w', w'.cell? ⟨A.tb j, 0, none⟩ = some (.pointer (some ⟨A.R, 0, none⟩)) → w'.cell? ⟨A.R, 6, none⟩ = some (.bool true) → X Try.prog Fin σ' (G (c.raise [{ v := stopV, recovered := false }]) cs) w' → X Try.prog Fin σ' (Go.Conc.served gj unitV) w')) hseat ?_ rfl rfl ?_ rfl ?_ ?_ ?_ ?_ hw2 hne ?_
  · simp [cfgOf]; omega
  · rfl
  · exact fun w => by simp [execOp, scase, Act.eval, seatM, unitV]
  · exact fun w => by simp [go_sem, execOp, Act.eval]
  · try walk_nrm
    unfold seatT
    repeat (first
      | refine way_regionEnd ?_ | refine way_seq ?_
      | (refine way_region ?_; simp only [rg, Nat.reduceAdd, List.range, List.range.loop])
      | (refine' way_op _ rfl (by rfl) rfl ?_ ?_ ?_; rotate_left; (focus (intro w; simp [go_sem, execOp, Act.eval]; rfl)); (focus (intro w; simp [go_sem, execOp, Act.eval]; done)); try walk_nrm)
      | (refine' way_load _ _ rfl (by rfl) rfl (List.mem_cons_self ..) ?_ ?_ ?_ ?_; (focus (intro w hw; simp [go_sem, execOp, Act.eval, hw]; done)); (focus (kernel_rfl; done)); (focus (intro w hw; simp [go_sem, execOp, Act.eval, hw]; done)); try walk_nrm)
      | (refine' way_load _ _ rfl (by rfl) rfl (List.mem_cons_of_mem _ (List.mem_cons_self ..)) ?_ ?_ ?_ ?_; (focus (intro w hw; simp [go_sem, execOp, Act.eval, hw]; done)); (focus (kernel_rfl; done)); (focus (intro w hw; simp [go_sem, execOp, Act.eval, hw]; done)); try walk_nrm)
      | (refine way_defer rfl (by rfl) rfl rfl rfl ?_; try walk_nrm)
      | (refine way_at rfl (by rfl) rfl ?_ ?_ ?_; (focus (intro w; simp [go_sem, execOp, rcase, Act.eval, unitV]; done)); (focus (intro w; simp [go_sem, execOp, Act.eval]; done))))
    refine ⟨?_, ?_⟩
    · intro σ' w' q0 q6 hY
      rw [served_fr, Frame.finish_at]
      walk_nrm
      show (tokenJ Try.prog Fin).Y σ' _ w'
      repeat (first
        | refine y_go rfl ?_
        | (refine y_region ?_; simp only [rg, Nat.reduceAdd, List.range, List.range.loop])
        | (refine y_nw rfl (by rfl) rfl (by exact nx rfl) (fun dd hS K hK => ?_); go_simp; refine hK _ _ _ ?_; clear hK K hS dd; simp only [recOf]; try walk_nrm)
        | (refine y_unwanted rfl (by rfl) ?_; try walk_nrm) | refine y_condT rfl ?_ | refine y_condF rfl ?_
        | refine y_block ?_ | refine y_label ?_ | refine y_ret ?_ | refine y_end ?_)
      exact y_leave rfl rfl Try.func179 (resultsC_none rfl _) hY
    · intro σ' w' q0 q6 hY
      rw [served_fr, Frame.finish_at]
      walk_nrm
      show (tokenJ Try.prog Fin).Y σ' _ w'
      repeat (first
        | refine y_go rfl ?_
        | (refine y_region ?_; simp only [rg, Nat.reduceAdd, List.range, List.range.loop])
        | (refine y_nw rfl (by rfl) rfl (by exact nx rfl) (fun dd hS K hK => ?_); go_simp; refine hK _ _ _ ?_; clear hK K hS dd; simp only [recOf]; try walk_nrm)
        | (refine y_unwanted rfl (by rfl) ?_; try walk_nrm) | refine y_condT rfl ?_ | refine y_condF rfl ?_
        | refine y_block ?_ | refine y_label ?_ | refine y_ret ?_ | refine y_end ?_)
      (refine y_nw rfl (by rfl) rfl (by first | exact nx rfl | exact nx_iface rfl | exact nx_panic rfl rfl) (fun dd hS K hK => ?_); go_simp; refine hK _ _ _ ?_; clear hK K hS dd; simp only [recOf]; try walk_nrm)
      (refine y_nw rfl (by rfl) rfl (by first | exact nx rfl | exact nx_iface rfl | exact nx_panic rfl rfl) (fun dd hS K hK => ?_); go_simp; refine hK _ _ _ ?_; clear hK K hS dd; simp only [recOf]; try walk_nrm)
      exact y_leave_panic rfl rfl Try.func179 hY
  · intro p hp
    simp [seatT] at hp
    rcases hp with rfl | rfl
    · exact t2
    · exact d2
  · intro gj k hQ
    exact hX.out gj (k + 1) _ _ _ B0.out S.out (setChan_same hs2) hQ.1 hQ.2
end Go.Proofs.Ytcibnfjpagmdaaa
