/- A thread's life: from its first step to its seat; its body; its end. -/
import Derived.Test.YtcibnfjpagmdaaaHand
set_option linter.unusedSimpArgs false
set_option linter.unusedVariables false
set_option maxRecDepth 100000
set_option maxHeartbeats 4000000
namespace Go.Proofs.Ytcibnfjpagmdaaa
open Go.TX Go.Conc Go.RowKit Go.MapKept

/-- Thread j has ended. -/
theorem GMem.fin {A : GA} {j : Nat} {w w1 : World} (M : GMem A (some j) w) (hj : j < A.p.nth) (S : SetB w w1 (A.tb j) (.cells (thrCells A.R j (A.wk j) (A.sd j) (A.pv j) (A.pa j) true) 205)) : GMem (A.fin j) none w1 := by
  have ht := M.thr j hj
  have st : ∀ {b : Nat} {o : Obj}, w.heap[b]? = some o → (∀ x y, o ≠ .cells x 205 y) → w1.heap[b]? = some o := fun {b o} hb n1 => (S.other b (ne_of_obj hb ht (n1 _ _))).trans hb
  have row : ∀ {e : TypeId} {s : Nat} {v : Value} {n : Nat} {ys : List Value}, w.ownsRow 0 e s v n ys → e ≠ 205 → w1.ownsRow 0 e s v n ys := fun {e s v n ys} hr h1 => row_later hr fun k hk => by
    obtain ⟨_, _, cur, hcur⟩ := row_ty hr hk
    exact (st hcur (fun x y h => h1 (Obj.cells.inj h).2.1)).trans hcur.symm
  have hst' : ∀ i, i ≠ j → (A.fin j).p.st i = A.p.st i := fun i hi => setAt_ne _ _ hi
  have hsj : (A.fin j).p.st j = .ended := setAt_same _ _ _
  obtain ⟨oR, omb, oc, o1, o2, o3, o4, o5, oj⟩ := M.owns
  refine { runs := st M.runs (by simp [runObj]), mapo := st M.mapo (by simp), thr := fun i hi => ?_, wkc := fun i hi => (M.wkc i hi).imp fun k hk => st hk (by simp), sdc := fun i hi => (M.sdc i hi).imp fun k hk => st hk (by simp), tcc := fun i hi => st (M.tcc i hi) (by simp), rcc := fun i hi => st (M.rcc i hi) (by simp), fcc := fun i hi => st (M.fcc i hi) (by simp), ths := row M.ths (by decide), logs := row M.logs (by decide), went := row M.went (by decide), ready := row M.ready (by decide), fell := row M.fell (by decide), cell := fun c hcc => st (M.cell c hcc) (by simp), cnc := M.cnc, cnd := M.cnd, stand := fun i a' hi _ hs => ?_, born := fun i => ?_, small := M.small, apart := ⟨M.apart.1, M.apart.2.1, fun i a' hi _ hs hst2 => ?_⟩, chans := M.chans, owns := ?_ }
  · by_cases e : i = j
    · subst e
      have : thrObj (A.fin i) i = .cells (thrCells A.R i (A.wk i) (A.sd i) (A.pv i) (A.pa i) true) 205 := by
        unfold thrObj
        rw [hsj]
        simp [GA.fin]
      rw [this]; exact S.is
    · have : thrObj (A.fin j) i = thrObj A i := by
        unfold thrObj
        rw [hst' i e]
        simp [GA.fin]
      rw [this]
      have hi' := M.thr i hi
      refine (S.other _ (ne_of_obj hi' ht fun h => ?_)).trans hi'
      have := congrArg (fun x : Array Value => x[1]?) (Obj.cells.inj (h : Obj.cells _ _ _ = .cells _ _ _)).1
      simp [thrCells] at this
      exact e (by omega)
  · by_cases e : i = j
    · subst e; rw [hsj] at hs; cases hs
    · rw [hst' i e] at hs
      obtain ⟨h1, h2, h3, h4, h5⟩ := M.stand i a' hi (fun h => e (Option.some.inj h).symm) hs
      exact ⟨h1, h2, h3, h4, fun hst2 => st (h5 hst2) (by simp)⟩
  · by_cases e : i = j
    · subst e; rw [hsj]; exact ⟨fun _ => .inl (by simp), fun _ => hj⟩
    · rw [hst' i e]
      refine (M.born i).trans ⟨?_, ?_⟩
      · rintro (h | h)
        · exact .inl h
        · exact absurd (Option.some.inj h).symm e
      · rintro (h | h)
        · exact .inl h
        · cases h
  · by_cases e : i = j
    · subst e; rw [hsj] at hs; cases hs
    · rw [hst' i e] at hs
      exact M.apart.2.2 i a' hi (fun h => e (Option.some.inj h).symm) hs hst2
  · refine ⟨oR, omb, oc, o1, o2, o3, o4, o5, fun i hi => ⟨(oj i hi).1, (oj i hi).2.1, (oj i hi).2.2.1, (oj i hi).2.2.2.1, (oj i hi).2.2.2.2.1, (oj i hi).2.2.2.2.2.1, fun a' _ hs => ?_⟩⟩
    by_cases e : i = j
    · subst e; rw [hsj] at hs; cases hs
    · rw [hst' i e] at hs
      exact (oj i hi).2.2.2.2.2.2 a' (fun h => e (Option.some.inj h).symm) hs

/-- Below a goroutine's first frame. -/
noncomputable def botF : Frame := { (default : Frame) with fn := Try.prog.funcs.size, defers := [], mode := .panicking [goexitEntry] }

section
variable {Fin : Machine → Trace → Prop} {C : Client} {j : Nat}
/-- What a thread's body must do: f is its function value. -/
def BodyOK (Fin : Machine → Trace → Prop) (C : Client) (j : Nat) (κ0 : C.K) (f : FuncId) (first cap : Array Value) : Prop :=
  ∀ m A kap s σ w, Mine Fin C m j A kap σ w → A.p.st j = .unborn → kap j = κ0 → C.I kap s A.p A.own w →
    CallsX (tokenJ Try.prog Fin) f (first ++ #[.pointer (some ⟨A.tb j, 0, none⟩)] ++ cap) σ w (fun v σ' w' => v = .tuple #[] ∧ ∃ m' A' kap' κ' s', A'.home j = A.home j ∧ Mine Fin C m' j A' kap' σ' w' ∧ C.I (setAt kap' j κ') s' (A'.p.put j .ended) A'.own w') (StopN Fin j (A.home j))
/-- What is owed of a thread that has been hired and sits at its channel. -/
def Born (Fin : Machine → Trace → Prop) (C : Client) (m j : Nat) (κ0 : C.K) (L : LayJ) (fc : Nat) (fv : Value) (g : Goroutine) : Prop :=
  ∀ A kap s gs gm os out w, A.lay j = L → A.fc j = fc → A.fv j = fv → 0 < A.n0 → GMem A (some j) w → j < A.p.nth → A.p.st j = .unborn → A.stops = false → kap j = κ0 → C.I kap s A.p A.own w →
    BackFor Fin C (Promise Fin C m j) A j kap gs gm os out w → X Try.prog Fin (cfgOf A (some j) gs gm os out) (Go.Conc.served g unitV) w

/-- The literal's own way out, behind its send: it only leaves. -/
theorem life_quits {T T' : Array Value} {todo : List Item} {md : FrameMode} (hmd : md = .returning ∨ ∃ v, md = .panicking [{ v := v, recovered := true }]) :
    QuitsD Try.prog 3 0 (G { (baseD 207).at ⟨T, []⟩ [] with mode := .returning } [{ (baseD 206).at ⟨T', []⟩ todo with mode := md }, botF]) := by
  refine QuitsD.ctl (g' := G { (baseD 206).at ⟨T', []⟩ todo with mode := .returning } [botF]) rfl (fun w => ?_) ?_
  · rcases hmd with rfl | ⟨v, rfl⟩ <;> simp [G, stepG, unwind, doReturn, results, Frame.at, baseD, Try.func207, Try.f207, seen, GStep.after]
  refine QuitsD.ctl (g' := G botF []) rfl (fun w => ?_) ?_
  · simp [G, stepG, unwind, doReturn, results, Frame.at, baseD, botF, Try.func206, Try.f206, seen, GStep.after, goexitEntry]
  refine QuitsD.ctl (g' := { G botF [] with status := .finished }) rfl (fun w => ?_) ⟨rfl, rfl⟩
  simp [G, stepG, unwind, botF, goexitEntry, Frame.catches]
  rfl

theorem end_normal {m : Nat} {A : GA} {kap : Nat → C.K} {κ' : C.K} {s' : C.S} {σ : Cfg} {w : World} {T' : Array Value} {todo : List Item} (hM : Mine Fin C m j A kap σ w) (hI : C.I (setAt kap j κ') s' (A.p.put j .ended) A.own w) :
    (tokenJ Try.prog Fin).Y σ (G (Frame.enter Try.prog 207 #[.pointer (some ⟨A.rc j, 0, none⟩), .pointer (some ⟨A.tc j, 0, none⟩)] .deferred) [{ (baseD 206).at ⟨T', []⟩ todo with mode := .returning }, botF]) w := by
  obtain ⟨gs, gm, os, out, rfl, h0, M, hj, hst, hne, B⟩ := hM
  have ct : w.cell? ⟨A.tc j, 0, none⟩ = some (.pointer (some ⟨A.tb j, 0, none⟩)) := by unfold World.cell?; rw [M.tcc j hj]; rfl
  have hfC := freeC_tb M rfl hj (lo := 13) (hi := 14) (gs := gs) (gm := gm) (os := os) (out := out) (by omega)
  have ht : w.heap[A.tb j]? = some (.cells (thrCells A.R j (A.wk j) (A.sd j) (A.pv j) (A.pa j) (decide (A.p.st j = .ended))) 205) := M.thr j hj
  rw [enter_atD _ Try.func207 rfl]
  simp only [Try.f207, Try.ntmps207, List.size_toArray, List.length_cons, List.length_nil, Nat.reduceAdd, Nat.reduceSub, Nat.zero_add, Array.replicate_succ, Array.replicate_zero, List.push_toArray, List.append_toArray, List.nil_append, List.cons_append, List.append_nil]
  replace B := Keep.mk B
  replace hI := Keep.mk hI
  replace M := Keep.mk M
  replace hfC := Keep.mk hfC
  replace ht := Keep.mk ht
  repeat (first
    | refine y_go rfl ?_
    | (refine y_region ?_; simp only [rg, Nat.reduceAdd, List.range, List.range.loop])
    | (refine y_nw rfl (by rfl) rfl (by exact nx rfl) (fun dd hS K hK => ?_); go_simp; refine hK _ _ _ ?_; clear hK K hS dd; simp only [recOf]; try walk_nrm)
    | (refine y_unwanted rfl (by rfl) ?_; try walk_nrm) | refine y_condT rfl ?_ | refine y_condF rfl ?_
    | refine y_block ?_ | refine y_label ?_ | refine y_ret ?_ | refine y_end ?_)
  refine (tokenJ _ _).silent (fun _ => stepG_recover_nil rfl (by rfl) rfl rfl rfl rfl) ?_
  walk_nrm
  repeat (first
    | refine y_go rfl ?_
    | (refine y_region ?_; simp only [rg, Nat.reduceAdd, List.range, List.range.loop])
    | (refine y_nw rfl (by rfl) rfl (by exact nx rfl) (fun dd hS K hK => ?_); go_simp; refine hK _ _ _ ?_; clear hK K hS dd; simp only [recOf]; try walk_nrm)
    | (refine y_unwanted rfl (by rfl) ?_; try walk_nrm) | refine y_condT rfl ?_ | refine y_condF rfl ?_
    | refine y_block ?_ | refine y_label ?_ | refine y_ret ?_ | refine y_end ?_)
  refine y_storeC (vs := #[.bool true]) rfl (by rfl) rfl rfl rfl rfl rfl ht.out (by first | kernel_rfl | rfl) (Nat.le_of_ble_eq_true rfl) (by simp [Value.oneCell']) hfC.out (fun w1 S1 => ?_)
  try walk_nrm
  rw [show (#[Value.bool true] : Array Value).toList = [.bool true] from rfl, put_end] at S1
  replace M := Keep.out M
  replace ht := Keep.out ht
  obtain ⟨ks, hks⟩ := M.sdc j hj
  have nct : A.tc j ≠ A.tb j := ne_of_obj (M.tcc j hj) ht (by simp)
  have nst : A.sd j ≠ A.tb j := ne_of_obj hks ht (by simp)
  have ct : w1.cell? ⟨A.tc j, 0, none⟩ = some (.pointer (some ⟨A.tb j, 0, none⟩)) := by unfold World.cell?; rw [S1.other _ nct, M.tcc j hj]; rfl
  have c3 : w1.cell? ⟨A.tb j, 3, none⟩ = some (.chan (some (A.sd j))) := by unfold World.cell?; rw [S1.is]; rfl
  have hks1 := (S1.other _ nst).trans hks
  replace S1 := Keep.mk S1
  replace M := Keep.mk M
  replace ht := Keep.mk ht
  replace hks := Keep.mk hks
  replace hks1 := Keep.mk hks1
  repeat (first
    | refine y_go rfl ?_
    | (refine y_region ?_; simp only [rg, Nat.reduceAdd, List.range, List.range.loop])
    | (refine y_nw rfl (by rfl) rfl (by exact nx rfl) (fun dd hS K hK => ?_); go_simp; refine hK _ _ _ ?_; clear hK K hS dd; simp only [recOf]; try walk_nrm)
    | (refine y_unwanted rfl (by rfl) ?_; try walk_nrm) | refine y_condT rfl ?_ | refine y_condF rfl ?_
    | refine y_block ?_ | refine y_label ?_ | refine y_ret ?_ | refine y_end ?_)
  refine x_sendQ (z' := .tuple #[]) (v := unitV) (j := 0) (sj := seatM A gm j) rfl ?_ rfl rfl (by rfl) rfl ?_ ?_ ?_ ⟨5, ?_⟩ ?_
  · show 0 ≠ A.n0 + j; omega
  · exact fun w => by simp [execOp, scase, Act.eval, seatM, unitV]
  · exact fun w => by simp [go_sem, execOp, Act.eval]
  · show 0 < A.n0 + j; omega
  · walk_nrm
    refine QuitsD.ctl rfl (fun w => stepG_region_end) ?_
    refine QuitsD.ctl rfl (fun w => stepG_end) ?_
    exact life_quits (.inl rfl)
  · intro k
    have S2 := setChan_same (k' := k + 1) hks1.out
    have M1 := (M.out.fin hj S1.out).chan S2 ⟨ks, hks1.out⟩
    obtain ⟨_, _, _, _, _, _, _, _, oj⟩ := M.out.owns
    obtain ⟨ob, _, osd, _⟩ := oj j hj
    have h := B.out (A.fin j) κ' s' gm _ M1 ⟨⟨.ended, by simp, rfl⟩, rfl, rfl, rfl, rfl, rfl, rfl, rfl, rfl, rfl, rfl, fun _ _ => rfl, rfl, rfl, rfl, rfl, rfl, rfl, fun _ h => h⟩
      (C.stable hI.out (by rw [S2.size, S1.out.size]; exact Nat.le_refl _) fun b hb hno => ⟨(S2.other b fun e => hno (e ▸ osd)).trans (S1.out.other b fun e => hno (e ▸ ob)), hno⟩)
      (fun a' h => by simp [GA.fin, Pub.put] at h) ⟨by rw [S2.size, S1.out.size]; exact Nat.le_refl _, fun b hb ho hg => (S2.other b fun e => hg (.inr (.inr (.inr (.inr (.inl e)))))).trans (S1.out.other b fun e => hg (.inr (.inr (.inl e))))⟩
    rw [← end_cfg (A' := A.fin j) h0 hj rfl rfl rfl rfl rfl] at h
    exact h

theorem end_stop {A0 : Home} {σ : Cfg} {w : World} {T' : Array Value} {todo : List Item} (hS : Stopping Fin j A0 σ w) :
    (tokenJ Try.prog Fin).Y σ (G (Frame.enter Try.prog 207 #[.pointer (some ⟨A0.rc, 0, none⟩), .pointer (some ⟨A0.tc, 0, none⟩)] .deferred) [{ (baseD 206).at ⟨T', []⟩ todo with mode := .panicking [{ v := stopV, recovered := false }] }, botF]) w := by
  obtain ⟨A, gs, gm, os, out, rfl, rfl, h0, M0, hj, hl, hst, B⟩ := hS
  have M := M0.under hj
  show (tokenJ Try.prog Fin).Y _ (G (Frame.enter Try.prog 207 #[.pointer (some ⟨A.rc j, 0, none⟩), .pointer (some ⟨A.tc j, 0, none⟩)] .deferred) _) w
  have ct : w.cell? ⟨A.tc j, 0, none⟩ = some (.pointer (some ⟨A.tb j, 0, none⟩)) := by unfold World.cell?; rw [M.tcc j hj]; rfl
  have cr : w.cell? ⟨A.rc j, 0, none⟩ = some (.pointer (some ⟨A.R, 0, none⟩)) := by unfold World.cell?; rw [M.rcc j hj]; rfl
  have r6 : w.cell? ⟨A.R, 6, none⟩ = some (.bool true) := by rw [← hst]; exact M.r6
  have hfC := freeC_tb M rfl hj (lo := 13) (hi := 14) (gs := gs) (gm := gm) (os := os) (out := out) (by omega)
  have ht : w.heap[A.tb j]? = some (.cells (thrCells A.R j (A.wk j) (A.sd j) (A.pv j) (A.pa j) (decide (A.p.st j = .ended))) 205) := M.thr j hj
  rw [enter_atD _ Try.func207 rfl]
  simp only [Try.f207, Try.ntmps207, List.size_toArray, List.length_cons, List.length_nil, Nat.reduceAdd, Nat.reduceSub, Nat.zero_add, Array.replicate_succ, Array.replicate_zero, List.push_toArray, List.append_toArray, List.nil_append, List.cons_append, List.append_nil]
  replace B := Keep.mk B
  replace M := Keep.mk M
  replace M0 := Keep.mk M0
  replace hfC := Keep.mk hfC
  replace ht := Keep.mk ht
  repeat (first
    | refine y_go rfl ?_
    | (refine y_region ?_; simp only [rg, Nat.reduceAdd, List.range, List.range.loop])
    | (refine y_nw rfl (by rfl) rfl (by exact nx rfl) (fun dd hS K hK => ?_); go_simp; refine hK _ _ _ ?_; clear hK K hS dd; simp only [recOf]; try walk_nrm)
    | (refine y_unwanted rfl (by rfl) ?_; try walk_nrm) | refine y_condT rfl ?_ | refine y_condF rfl ?_
    | refine y_block ?_ | refine y_label ?_ | refine y_ret ?_ | refine y_end ?_)
  refine (tokenJ _ _).silent (fun _ => stepG_recover_some rfl (by rfl) rfl rfl rfl rfl) ?_
  walk_nrm
  unfold stopV
  repeat (first
    | refine y_go rfl ?_
    | (refine y_region ?_; simp only [rg, Nat.reduceAdd, List.range, List.range.loop])
    | (refine y_nw rfl (by rfl) rfl (by exact nx rfl) (fun dd hS K hK => ?_); go_simp; refine hK _ _ _ ?_; clear hK K hS dd; simp only [recOf]; try walk_nrm)
    | (refine y_unwanted rfl (by rfl) ?_; try walk_nrm) | refine y_condT rfl ?_ | refine y_condF rfl ?_
    | refine y_block ?_ | refine y_label ?_ | refine y_ret ?_ | refine y_end ?_)
  refine y_storeC (vs := #[.bool true]) rfl (by rfl) rfl rfl rfl rfl rfl ht.out (by first | kernel_rfl | rfl) (Nat.le_of_ble_eq_true rfl) (by simp [Value.oneCell']) hfC.out (fun w1 S1 => ?_)
  try walk_nrm
  rw [show (#[Value.bool true] : Array Value).toList = [.bool true] from rfl, put_end] at S1
  replace M := Keep.out M
  replace ht := Keep.out ht
  obtain ⟨ks, hks⟩ := M.sdc j hj
  have nct : A.tc j ≠ A.tb j := ne_of_obj (M.tcc j hj) ht (by simp)
  have nst : A.sd j ≠ A.tb j := ne_of_obj hks ht (by simp)
  have ct : w1.cell? ⟨A.tc j, 0, none⟩ = some (.pointer (some ⟨A.tb j, 0, none⟩)) := by unfold World.cell?; rw [S1.other _ nct, M.tcc j hj]; rfl
  have c3 : w1.cell? ⟨A.tb j, 3, none⟩ = some (.chan (some (A.sd j))) := by unfold World.cell?; rw [S1.is]; rfl
  have hks1 := (S1.other _ nst).trans hks
  replace S1 := Keep.mk S1
  replace M := Keep.mk M
  replace ht := Keep.mk ht
  replace hks := Keep.mk hks
  replace hks1 := Keep.mk hks1
  repeat (first
    | refine y_go rfl ?_
    | (refine y_region ?_; simp only [rg, Nat.reduceAdd, List.range, List.range.loop])
    | (refine y_nw rfl (by rfl) rfl (by exact nx rfl) (fun dd hS K hK => ?_); go_simp; refine hK _ _ _ ?_; clear hK K hS dd; simp only [recOf]; try walk_nrm)
    | (refine y_unwanted rfl (by rfl) ?_; try walk_nrm) | refine y_condT rfl ?_ | refine y_condF rfl ?_
    | refine y_block ?_ | refine y_label ?_ | refine y_ret ?_ | refine y_end ?_)
  refine x_sendQ (z' := .tuple #[]) (v := unitV) (j := 0) (sj := seatM A gm j) rfl ?_ rfl rfl (by rfl) rfl ?_ ?_ ?_ ⟨5, ?_⟩ ?_
  · show 0 ≠ A.n0 + j; omega
  · exact fun w => by simp [execOp, scase, Act.eval, seatM, unitV]
  · exact fun w => by simp [go_sem, execOp, Act.eval]
  · show 0 < A.n0 + j; omega
  · walk_nrm
    refine QuitsD.ctl rfl (fun w => stepG_region_end) ?_
    refine QuitsD.ctl rfl (fun w => stepG_end) ?_
    exact life_quits (.inr ⟨_, rfl⟩)
  · intro k
    have S2 := setChan_same (k' := k + 1) hks1.out
    have M1 := (M.out.fin hj S1.out).chan S2 ⟨ks, hks1.out⟩
    have h := B.out _ M1 ⟨by rw [S2.size, S1.out.size], fun b h1 h2 h3 => (S2.other b h3).trans (S1.out.other b h1)⟩
    have e : gs = setAt gs j (gs j) := by funext x; unfold setAt; split <;> simp_all
    rw [e, ← end_cfg (A' := A.fin j) h0 hj rfl rfl rfl rfl rfl] at h
    exact h

theorem y_callVA {P : Program} {J : Judge P} {σ : Cfg} {w : World} {b : Frame} {a : Act} {k : List Item} {cs : List Frame} {ops : Array Oper} {i : Nat} {rest : List Nat} {o : Oper} {f : FuncId} {fn : Func} {x : Operand} {xs : Array Operand} {ts : Array TypeId} {first cap : Array Value} {R : Value → Cfg → World → Prop} {N : List PanicEntry → Cfg → World → Prop} {args : Array Value} (hc : CallsX J f args σ w R N)
    (ho : ops[i]? = some o) (hw : Region.wanted o (yielded ops a.tmps) = true) (hk : (b.kind == CallKind.early) = false) (hop : o.op = .call { callee := .value x, args := xs, argTypes := ts }) (hx : a.eval x = .func (.func f) first cap)
    (hf : P.funcs[f]? = some fn) (hname : (fn.name == "runtime.NumGoroutine") = false) (hb : fn.body.isNone = false) (hargs : first ++ xs.map a.eval ++ cap = args)
    (hret : ∀ v σ' w', R v σ' w' → J.Y σ' (G (b.at (a.put o.dst v) (.inRegion ops rest :: k)) cs) w')
    (hpan : ∀ ch σ' w', N ch σ' w' → J.Y σ' (G { b.at a (.inRegion ops (i :: rest) :: k) with mode := .panicking ch } cs) w') :
    J.Y σ (G (b.at a (.inRegion ops (i :: rest) :: k)) cs) w := y_callV ho hw hk hop hx hf hname hb (hargs ▸ hc) hret hpan

theorem y_litP {P : Program} {J : Judge P} {σ : Cfg} {w : World} {b : Frame} {a : Act} {cs : List Frame} {todo : List Item} {ds : List Deferred} {f : FuncId} {fn : Func} {cap : Array Value} {ch : List PanicEntry} (hd : a.defers = dlit f cap :: ds) (hf : P.funcs[f]? = some fn) (hname : (fn.name == "runtime.NumGoroutine") = false) (hb : fn.body.isNone = false)
    (h : J.Y σ (G (Frame.enter P f cap .deferred) ({ b.at ⟨a.tmps, ds⟩ todo with mode := .panicking ch } :: cs)) w) : J.Y σ (G { b.at a todo with mode := .panicking ch } cs) w := J.silent (fun _ => stepG_lit_enterP hd hf hname hb) h
theorem y_lit {P : Program} {J : Judge P} {σ : Cfg} {w : World} {b : Frame} {a : Act} {cs : List Frame} {todo : List Item} {ds : List Deferred} {f : FuncId} {fn : Func} {cap : Array Value} (hd : a.defers = dlit f cap :: ds) (hf : P.funcs[f]? = some fn) (hname : (fn.name == "runtime.NumGoroutine") = false) (hb : fn.body.isNone = false)
    (h : J.Y σ (G (Frame.enter P f cap .deferred) ({ b.at ⟨a.tmps, ds⟩ todo with mode := .returning } :: cs)) w) : J.Y σ (G { b.at a todo with mode := .returning } cs) w := J.silent (fun _ => stepG_lit_enter hd hf hname hb) h

/-- A thread's first record. -/
noncomputable def bornT (L : LayJ) (fc : Nat) : Goroutine := born Try.prog (dlit 206 #[.pointer (some ⟨L.rc, 0, none⟩), .pointer (some ⟨L.tc, 0, none⟩), .pointer (some ⟨fc, 0, none⟩)])
theorem life_way {m : Nat} {κ0 : C.K} {L : LayJ} {fc : Nat} {f : FuncId} {fn : Func} {first cap : Array Value} (hf : Try.prog.funcs[f]? = some fn) (hname : (fn.name == "runtime.NumGoroutine") = false) (hb : fn.body.isNone = false) (hbody : BodyOK Fin C j κ0 f first cap) :
    Go.TX.Way Try.prog false L.wk unitV [(⟨L.tc, 0, none⟩, .pointer (some ⟨L.tb, 0, none⟩)), (⟨L.tb, 2, none⟩, .chan (some L.wk))] (Born Fin C m j κ0 L fc (.func (.func f) first cap)) (bornT L fc) := by
  have hborn : ∀ w, stepG Try.prog false (bornT L fc) w = .go (G (Frame.enter Try.prog 206 #[.pointer (some ⟨L.rc, 0, none⟩), .pointer (some ⟨L.tc, 0, none⟩), .pointer (some ⟨fc, 0, none⟩)] .deferred) [botF]) w #[] := fun w => by
    unfold bornT botF
    exact born_lit Try.func206 (by kernel_rfl) (by kernel_rfl)
  refine way_ctl rfl hborn ?_
  clear hborn
  rw [enter_atD _ Try.func206 rfl]
  simp only [Try.f206, Try.ntmps206, List.size_toArray, List.length_cons, List.length_nil, Nat.reduceAdd, Nat.reduceSub, Nat.zero_add, Array.replicate_succ, Array.replicate_zero, List.push_toArray, List.append_toArray, List.nil_append, List.cons_append, List.append_nil]
  repeat (first
    | refine way_regionEnd ?_ | refine way_seq ?_
    | (refine way_region ?_; simp only [rg, Nat.reduceAdd, List.range, List.range.loop])
    | (refine' way_op _ rfl (by rfl) rfl ?_ ?_ ?_; rotate_left; (focus (intro w; simp [go_sem, execOp, Act.eval]; rfl)); (focus (intro w; simp [go_sem, execOp, Act.eval]; done)); try walk_nrm)
    | (refine' way_load _ _ rfl (by rfl) rfl (List.mem_cons_self ..) ?_ ?_ ?_ ?_; (focus (intro w hw; simp [go_sem, execOp, Act.eval, hw]; done)); (focus (kernel_rfl; done)); (focus (intro w hw; simp [go_sem, execOp, Act.eval, hw]; done)); try walk_nrm)
    | (refine' way_load _ _ rfl (by rfl) rfl (List.mem_cons_of_mem _ (List.mem_cons_self ..)) ?_ ?_ ?_ ?_; (focus (intro w hw; simp [go_sem, execOp, Act.eval, hw]; done)); (focus (kernel_rfl; done)); (focus (intro w hw; simp [go_sem, execOp, Act.eval, hw]; done)); try walk_nrm)
    | (refine way_defer rfl (by rfl) rfl rfl rfl ?_; try walk_nrm)
    | (refine way_at rfl (by rfl) rfl ?_ ?_ ?_; (focus (intro w; simp [go_sem, execOp, rcase, Act.eval, unitV]; done)); (focus (intro w; simp [go_sem, execOp, Act.eval]; done))))
  intro A kap s gs gm os out w hL hfc hfv h0 M hj hun hst hk hI B
  have e1 : L.tb = A.tb j := by rw [← hL]; rfl
  have e2 : L.tc = A.tc j := by rw [← hL]; rfl
  have e3 : L.rc = A.rc j := by rw [← hL]; rfl
  rw [e1, e2, e3]
  have ct : w.cell? ⟨A.tc j, 0, none⟩ = some (.pointer (some ⟨A.tb j, 0, none⟩)) := by unfold World.cell?; rw [M.tcc j hj]; rfl
  have cf : w.cell? ⟨fc, 0, none⟩ = some (.func (.func f) first cap) := by unfold World.cell?; rw [← hfc, M.fcc j hj, hfv]; rfl
  rw [served_fr, Frame.finish_at]
  walk_nrm
  show (tokenJ Try.prog Fin).Y _ _ w
  have hM : Mine Fin C m j A kap (cfgOf A (some j) gs gm os out) w := ⟨gs, gm, os, out, rfl, h0, M, hj, hst, by rw [hun]; simp, B⟩
  clear hL hfc hfv M B e1 e2 e3
  replace hbody := Keep.mk hbody
  replace hM := Keep.mk hM
  replace hI := Keep.mk hI
  replace hun := Keep.mk hun
  replace hk := Keep.mk hk
  repeat (first
    | refine y_go rfl ?_
    | (refine y_region ?_; simp only [rg, Nat.reduceAdd, List.range, List.range.loop])
    | (refine y_nw rfl (by rfl) rfl (by exact nx rfl) (fun dd hS K hK => ?_); go_simp; refine hK _ _ _ ?_; clear hK K hS dd; simp only [recOf]; try walk_nrm)
    | (refine y_unwanted rfl (by rfl) ?_; try walk_nrm) | refine y_condT rfl ?_ | refine y_condF rfl ?_
    | refine y_block ?_ | refine y_label ?_ | refine y_ret ?_ | refine y_end ?_)
  refine y_callVA (hbody.out m A kap s _ w hM.out hun.out hk.out hI.out) rfl (by rfl) rfl rfl rfl hf hname hb (by simp only [List.map_toArray, List.map_cons, List.map_nil] <;> rfl) ?_ ?_
  · rintro v σ' w' ⟨rfl, m', A', kap', κ', s', hH, hM', hI'⟩
    have e4 : A.rc j = A'.rc j := (congrArg Home.rc hH).symm
    have e5 : A.tc j = A'.tc j := (congrArg Home.tc hH).symm
    rw [e4, e5]
    walk_nrm
    replace hM' := Keep.mk hM'
    replace hI' := Keep.mk hI'
    repeat (first
      | refine y_go rfl ?_
      | (refine y_region ?_; simp only [rg, Nat.reduceAdd, List.range, List.range.loop])
      | (refine y_nw rfl (by rfl) rfl (by exact nx rfl) (fun dd hS K hK => ?_); go_simp; refine hK _ _ _ ?_; clear hK K hS dd; simp only [recOf]; try walk_nrm)
      | (refine y_unwanted rfl (by rfl) ?_; try walk_nrm) | refine y_condT rfl ?_ | refine y_condF rfl ?_
      | refine y_block ?_ | refine y_label ?_ | refine y_ret ?_ | refine y_end ?_)
    refine y_lit rfl Try.func207 (by kernel_rfl) (by kernel_rfl) ?_
    have h := fun T todo => end_normal (T' := T) (todo := todo) hM'.out hI'.out
    exact h _ _
  · rintro ch σ' w' ⟨rfl, hS⟩
    refine y_litP rfl Try.func207 (by kernel_rfl) (by kernel_rfl) ?_
    have h := fun T todo => end_stop (T' := T) (todo := todo) hS
    show (tokenJ Try.prog Fin).Y _ (G (Frame.enter Try.prog 207 #[.pointer (some ⟨(A.home j).rc, 0, none⟩), .pointer (some ⟨(A.home j).tc, 0, none⟩)] .deferred) _) _
    exact h _ _
end
end Go.Proofs.Ytcibnfjpagmdaaa
