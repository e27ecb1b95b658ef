/- Main begins a thread. -/
import Derived.Test.YtcibnfjpagmdaaaBegun
set_option linter.unusedSimpArgs false
set_option linter.unusedVariables false
set_option maxRecDepth 100000
set_option maxHeartbeats 4000000
namespace Go.Proofs.Ytcibnfjpagmdaaa
open Go.TX Go.Conc Go.RowKit Go.MapKept
open Go.ConcN (upd upd_ne upd_same)

@[go_sem] theorem mk_chan (w : World) : (Instr.makeChan 79 (.int .i64 0)).run Try.prog w = .ok (.chan (some w.heap.size)) (w.alloc (.chan 0 #[] false 0 0 false)) := by
  have h : (Try.prog.info? 68).map (fun i => i.bytes) = some 0 := by kernel_rfl
  obtain ⟨i, h1, h2⟩ := Option.map_eq_some_iff.1 h
  exact run_makeChan Try.underlying79 h1 .i64 0 (by decide) (by rw [h2]; decide)

/-- A thread's things have been made. -/
structure NewThr (R n : Nat) (w w' : World) (wk sd tb tc : Nat) : Prop where
  size : w.heap.size ≤ w'.heap.size
  old : ∀ b, b < w.heap.size → w'.heap[b]? = w.heap[b]?
  hwk : w'.heap[wk]? = some (.chan 0 #[] false 0 0 false)
  hsd : w'.heap[sd]? = some (.chan 0 #[] false 0 0 false)
  htb : w'.heap[tb]? = some (.cells (thrCells R n wk sd none Entry.zero false) 205)
  htc : w'.heap[tc]? = some (.cells #[.pointer (some ⟨tb, 0, none⟩)] 33)
  ne : wk ≠ sd
  lwk : w.heap.size ≤ wk
  lsd : w.heap.size ≤ sd
  ltb : w.heap.size ≤ tb
  ltc : w.heap.size ≤ tc

theorem free_own {σ : Cfg} {v : Value} (h : ∀ b, v.ownBlock = some b → σ.Free (· = b)) : σ.Free fun c => some c = v.ownBlock := fun i s e => ⟨fun h' => (h s.c h'.symm i s e).1 rfl, fun p hp h' => (h _ h'.symm i s e).2 p hp rfl⟩

section
variable {Fin : Machine → Trace → Prop} {C : Client} {m : Nat} {A A' : GA} {kap : Nat → C.K} {s : C.S} {gs : Nat → Goroutine} {gm gm' : Goroutine} {os : Os} {out : Array (Nat × ByteArray)} {w w' : World} {j : Nat} {a : Acc} {kp : Nat → Option Obj}

theorem begin_calls {f : FuncId} {fn : Func} {first cap : Array Value} (hf : Try.prog.funcs[f]? = some fn) (hname : (fn.name == "runtime.NumGoroutine") = false) (hb : fn.body.isNone = false)
    (B : Board Fin C m A kap s gs w) (H : Held kp A w) (h64 : A.p.nth < 64) (hbody : BodyOK Fin C A.p.nth (kap A.p.nth) f first cap) :
    CallsX (tokenJ Try.prog Fin) 171 #[.pointer (some ⟨A.R, 0, none⟩), .func (.func f) first cap] (cfgOf A none gs gm os out) w fun v σ' w' => BeginR Fin C m A kap gs gm os out kp σ' w' := by
  refine callsX_body Try.func171 rfl fun c cs HR _ => (tokenJ _ _).snd _ _ _ fun hs => ?_
  simp only [Try.f171, Try.ntmps171, List.size_toArray, List.length_cons, List.length_nil, Nat.reduceAdd, Nat.reduceSub, Nat.zero_add, Array.replicate_succ, Array.replicate_zero, List.push_toArray, List.append_toArray, List.nil_append, List.cons_append, List.append_nil]
  have M := B.mem
  have r0 := M.r0
  obtain ⟨bo, cp, hthv⟩ := row_slice M.ths
  rw [hthv] at r0
  replace B := Keep.mk B
  replace M := Keep.mk M
  replace H := Keep.mk H
  replace HR := Keep.mk HR
  replace hs := Keep.mk hs
  replace hbody := Keep.mk hbody
  replace hf := Keep.mk hf
  replace hname := Keep.mk hname
  replace hb := Keep.mk hb
  replace hthv := Keep.mk hthv
  repeat (first
    | refine y_go rfl ?_
    | (refine y_nw rfl (by rfl) rfl (by exact nx rfl) (fun dd hS K hK => ?_); go_simp; refine hK _ _ _ ?_; clear hK K hS dd; simp only [recOf]; try walk_nrm)
    | (refine y_unwanted rfl (by rfl) ?_; try walk_nrm) | refine y_condT rfl ?_ | refine y_condF rfl ?_
    | refine y_block ?_ | refine y_label ?_ | refine y_ret ?_ | refine y_end ?_)
  (refine y_region ?_; simp only [rg, Nat.reduceAdd, List.range, List.range.loop])
  repeat (first
    | refine y_go rfl ?_
    | (refine y_nw rfl (by rfl) rfl (by exact nx rfl) (fun dd hS K hK => ?_); go_simp; refine hK _ _ _ ?_; clear hK K hS dd; simp only [recOf]; try walk_nrm)
    | (refine y_unwanted rfl (by rfl) ?_; try walk_nrm) | refine y_condT rfl ?_ | refine y_condF rfl ?_
    | refine y_block ?_ | refine y_label ?_ | refine y_ret ?_ | refine y_end ?_)
  have N1 := newO w (.cells #[.pointer (some ⟨A.R, 0, none⟩)] 196)
  generalize w.alloc (.cells #[.pointer (some ⟨A.R, 0, none⟩)] 196) = w1 at N1 ⊢
  have N2 := newO w1 (.cells #[.func (.func f) first cap] 40)
  generalize w1.alloc (.cells #[.func (.func f) first cap] 40) = w2 at N2 ⊢
  have z1 := N1.size
  have z2 := N2.size
  have c0 : w2.cell? ⟨w.heap.size, 0, none⟩ = some (.pointer (some ⟨A.R, 0, none⟩)) := by unfold World.cell?; rw [N2.old _ (show w.heap.size < w1.heap.size by omega), N1.is]; rfl
  have B2 : Bigger w w2 := ⟨by omega, fun b hb => (N2.old b (by omega)).trans (N1.old b hb)⟩
  have r0 : w2.cell? ⟨A.R, 0, none⟩ = some (.slice bo A.p.nth cp) := (cell?_of_block (B2.old _ (lt_of_cell r0))).trans r0
  replace hs : Keep ((cfgOf A none gs gm os out).Sound w2) := Keep.mk fun i s e => by
    obtain ⟨h1, k, h2⟩ := hs.out i s e
    exact ⟨fun p hp => (cell?_of_block (B2.old _ (lt_of_cell (h1 p hp)))).trans (h1 p hp), k, B2.is h2⟩
  refine y_cut (fun a σ' w' => σ' = cfgOf A none gs gm os out ∧ ∃ wk sd tb tc, NewThr A.R A.p.nth w2 w' wk sd tb tc ∧
      Tm a 39 [(0, .pointer (some ⟨A.R, 0, none⟩)), (2, .pointer (some ⟨w.heap.size, 0, none⟩)), (3, .pointer (some ⟨w.heap.size + 1, 0, none⟩)), (5, .pointer (some ⟨tc, 0, none⟩))]) (fun kk K => ?_) ?_
  · clear HR
    replace K := Keep.mk K
    replace N1 := Keep.mk N1
    replace N2 := Keep.mk N2
    replace B2 := Keep.mk B2
    have q0 := c0
    have q1 := r0
    refine y_drawnQ (fun _ w' => w'.cell? ⟨w.heap.size, 0, none⟩ = some (.pointer (some ⟨A.R, 0, none⟩)) ∧ w'.cell? ⟨A.R, 0, none⟩ = some (.slice bo A.p.nth cp)) (fun _ => false) (by kernel_rfl) rfl ?_
    simp only [List.size_toArray, List.length_cons, List.length_nil, Nat.reduceAdd, Nat.reduceSub, Nat.zero_add, Array.replicate_succ, Array.replicate_zero, List.push_toArray, List.append_toArray, List.nil_append, List.cons_append, List.append_nil]
    first | (apply anyX_tW (i := 0) rfl; (focus rfl); (focus (exact nx rfl)); (focus (rintro σ' w' ⟨s0, s1⟩ d K hK; go_simp; exact hK)); (focus kernel_rfl); (focus (exact ⟨q0, q1⟩))) | (refine anyX_tU (i := 0) rfl rfl (by kernel_rfl) (by exact ⟨q0, q1⟩) ?_)
    try walk_nrm
    first | (apply anyX_tW (i := 1) rfl; (focus rfl); (focus (exact nx rfl)); (focus (rintro σ' w' ⟨s0, s1⟩ d K hK; go_simp; exact hK)); (focus kernel_rfl); (focus (exact ⟨q0, q1⟩))) | (refine anyX_tU (i := 1) rfl rfl (by kernel_rfl) (by exact ⟨q0, q1⟩) ?_)
    try walk_nrm
    first | (apply anyX_tW (i := 2) rfl; (focus rfl); (focus (exact nx rfl)); (focus (rintro σ' w' ⟨s0, s1⟩ d K hK; go_simp; exact hK)); (focus kernel_rfl); (focus (exact ⟨q0, q1⟩))) | (refine anyX_tU (i := 2) rfl rfl (by kernel_rfl) (by exact ⟨q0, q1⟩) ?_)
    try walk_nrm
    first | (apply anyX_tW (i := 3) rfl; (focus rfl); (focus (exact nx rfl)); (focus (rintro σ' w' ⟨s0, s1⟩ d K hK; go_simp; exact hK)); (focus kernel_rfl); (focus (exact ⟨q0, q1⟩))) | (refine anyX_tU (i := 3) rfl rfl (by kernel_rfl) (by exact ⟨q0, q1⟩) ?_)
    try walk_nrm
    first | (apply anyX_tW (i := 4) rfl; (focus rfl); (focus (exact nx rfl)); (focus (rintro σ' w' ⟨s0, s1⟩ d K hK; go_simp; exact hK)); (focus kernel_rfl); (focus (exact ⟨q0, q1⟩))) | (refine anyX_tU (i := 4) rfl rfl (by kernel_rfl) (by exact ⟨q0, q1⟩) ?_)
    try walk_nrm
    first | (apply anyX_tW (i := 5) rfl; (focus rfl); (focus (exact nx rfl)); (focus (rintro σ' w' ⟨s0, s1⟩ d K hK; go_simp; exact hK)); (focus kernel_rfl); (focus (exact ⟨q0, q1⟩))) | (refine anyX_tU (i := 5) rfl rfl (by kernel_rfl) (by exact ⟨q0, q1⟩) ?_)
    try walk_nrm
    replace K := K.out
--PATHS
    refine anyX_three (i := 6) (j := 7) (k := 10) (by kernel_rfl) ?_ ?_ ?_
    · refine opX_nw rfl (by rfl) (by first | exact nx_of rfl | exact nx_nil rfl rfl | exact nx_int rfl rfl rfl) (fun dd hS K' hK' => ?_)
      go_simp
      refine hK' _ _ _ ?_
      clear hK' K' hS dd
      have M0 := newO w2 (.chan 0 #[] false 0 0 false)
      have q0 := (cell?_of_block (M0.old _ (lt_of_cell q0))).trans q0
      have q1 := (cell?_of_block (M0.old _ (lt_of_cell q1))).trans q1
      have z0 := M0.size
      generalize w2.alloc (.chan 0 #[] false 0 0 false) = v0 at M0 q0 q1 z0 ⊢
      refine ⟨fun _ => ⟨q0, q1⟩, ?_⟩
      try walk_nrm
      refine anyX_two (i := 7) (j := 10) (by kernel_rfl) ?_ ?_
      · refine opX_nw rfl (by rfl) (by first | exact nx_of rfl | exact nx_nil rfl rfl | exact nx_int rfl rfl rfl) (fun dd hS K' hK' => ?_)
        go_simp
        refine hK' _ _ _ ?_
        clear hK' K' hS dd
        have M1 := newO v0 (.chan 0 #[] false 0 0 false)
        have q0 := (cell?_of_block (M1.old _ (lt_of_cell q0))).trans q0
        have q1 := (cell?_of_block (M1.old _ (lt_of_cell q1))).trans q1
        have z1 := M1.size
        generalize v0.alloc (.chan 0 #[] false 0 0 false) = v1 at M1 q0 q1 z1 ⊢
        refine ⟨fun _ => ⟨q0, q1⟩, ?_⟩
        try walk_nrm
        first | (apply anyX_tW (i := 8) rfl; (focus rfl); (focus (exact nx rfl)); (focus (rintro σ' w' ⟨s0, s1⟩ d K hK; go_simp; exact hK)); (focus kernel_rfl); (focus (exact ⟨q0, q1⟩))) | (refine anyX_tU (i := 8) rfl rfl (by kernel_rfl) (by exact ⟨q0, q1⟩) ?_)
        try walk_nrm
        refine anyX_two (i := 9) (j := 10) (by kernel_rfl) ?_ ?_
        · refine opX_nw rfl (by rfl) (by first | exact nx_of rfl | exact nx_nil rfl rfl | exact nx_int rfl rfl rfl) (fun dd hS K' hK' => ?_)
          go_simp
          refine hK' _ _ _ ?_
          clear hK' K' hS dd
          have M2 := newO v1 (.cells #[.pointer (some ⟨A.R, 0, none⟩), .int .i64 A.p.nth, .chan (some (w.heap.size + 1 + 1)), .chan (some (w.heap.size + 1 + 1 + 1)), .pointer none, .int .i64 0, .int .i8 0, .int .i64 0, .int .i64 0, .int .i64 0, .int .i64 0, .int .i64 0, .bool false, .bool false] 205)
          have q0 := (cell?_of_block (M2.old _ (lt_of_cell q0))).trans q0
          have q1 := (cell?_of_block (M2.old _ (lt_of_cell q1))).trans q1
          have z2 := M2.size
          generalize v1.alloc (.cells #[.pointer (some ⟨A.R, 0, none⟩), .int .i64 A.p.nth, .chan (some (w.heap.size + 1 + 1)), .chan (some (w.heap.size + 1 + 1 + 1)), .pointer none, .int .i64 0, .int .i8 0, .int .i64 0, .int .i64 0, .int .i64 0, .int .i64 0, .int .i64 0, .bool false, .bool false] 205) = v2 at M2 q0 q1 z2 ⊢
          refine ⟨fun _ => ⟨q0, q1⟩, ?_⟩
          try walk_nrm
          refine anyX_one (i := 10) (by kernel_rfl) ?_
          · refine opX_nw rfl (by rfl) (by first | exact nx_of rfl | exact nx_nil rfl rfl | exact nx_int rfl rfl rfl) (fun dd hS K' hK' => ?_)
            go_simp
            refine hK' _ _ _ ?_
            clear hK' K' hS dd
            have M3 := newO v2 (.cells #[.pointer none] 33)
            have q0 := (cell?_of_block (M3.old _ (lt_of_cell q0))).trans q0
            have q1 := (cell?_of_block (M3.old _ (lt_of_cell q1))).trans q1
            have z3 := M3.size
            generalize v2.alloc (.cells #[.pointer none] 33) = v3 at M3 q0 q1 z3 ⊢
            refine ⟨fun _ => ⟨q0, q1⟩, ?_⟩
            try walk_nrm
            have hc : v3.heap[w.heap.size + 1 + 1 + 1 + 1 + 1]? = some (.cells #[.pointer none] 33) := by
              have h := M3.is
              have e : v2.heap.size = w.heap.size + 1 + 1 + 1 + 1 + 1 := by omega
              rw [e] at h
              exact h
            refine anyX_one (i := 11) (by kernel_rfl) (opX_storeC (vs := #[.pointer (some ⟨w.heap.size + 1 + 1 + 1 + 1, 0, none⟩)]) rfl (by rfl) rfl rfl rfl rfl hc (by first | kernel_rfl | rfl) (Nat.le_of_ble_eq_true rfl) (by simp [Value.oneCell']) (Cfg.Free.cells (free_fresh hs.out (by omega))) (fun wf SF => ?_))
            have q0 := (cell?_of_block (SF.other _ (by have := lt_of_cell c0; simp only at this ⊢; omega))).trans q0
            have q1 := (cell?_of_block (SF.other _ (by have := lt_of_cell r0; simp only at this ⊢; omega))).trans q1
            refine ⟨fun _ => ⟨q0, q1⟩, ?_⟩
            try walk_nrm
            refine anyX_end (by kernel_rfl) ?_
            refine K _ _ _ ⟨rfl, (w.heap.size + 1 + 1), (w.heap.size + 1 + 1 + 1), (w.heap.size + 1 + 1 + 1 + 1), (w.heap.size + 1 + 1 + 1 + 1 + 1), ⟨?_, fun b hb => ?_, ?_, ?_, ?_, ?_, by omega, by omega, by omega, by omega, by omega⟩, ⟨rfl, rfl, rfl, rfl, rfl, rfl, trivial⟩⟩
            · rw [SF.size]; omega
            · exact (SF.other _ (by omega)).trans ((M3.old _ (by omega)).trans ((M2.old _ (by omega)).trans ((M1.old _ (by omega)).trans ((M0.old _ (by omega)).trans (rfl)))))
            · have h := (M3.old _ (by omega)).trans ((M2.old _ (by omega)).trans ((M1.old _ (by omega)).trans (M0.is)))
              have e : w2.heap.size = w.heap.size + 1 + 1 := by omega
              rw [e] at h
              exact (SF.other _ (by omega)).trans h
            · have h := (M3.old _ (by omega)).trans ((M2.old _ (by omega)).trans (M1.is))
              have e : v0.heap.size = w.heap.size + 1 + 1 + 1 := by omega
              rw [e] at h
              exact (SF.other _ (by omega)).trans h
            · have h := (M3.old _ (by omega)).trans (M2.is)
              have e : v1.heap.size = w.heap.size + 1 + 1 + 1 + 1 := by omega
              rw [e] at h
              exact (SF.other _ (by omega)).trans h
            · exact SF.is
        · refine opX_nw rfl (by rfl) (by first | exact nx_of rfl | exact nx_nil rfl rfl | exact nx_int rfl rfl rfl) (fun dd hS K' hK' => ?_)
          go_simp
          refine hK' _ _ _ ?_
          clear hK' K' hS dd
          have M2 := newO v1 (.cells #[.pointer none] 33)
          have q0 := (cell?_of_block (M2.old _ (lt_of_cell q0))).trans q0
          have q1 := (cell?_of_block (M2.old _ (lt_of_cell q1))).trans q1
          have z2 := M2.size
          generalize v1.alloc (.cells #[.pointer none] 33) = v2 at M2 q0 q1 z2 ⊢
          refine ⟨fun _ => ⟨q0, q1⟩, ?_⟩
          try walk_nrm
          refine anyX_one (i := 9) (by kernel_rfl) ?_
          · refine opX_nw rfl (by rfl) (by first | exact nx_of rfl | exact nx_nil rfl rfl | exact nx_int rfl rfl rfl) (fun dd hS K' hK' => ?_)
            go_simp
            refine hK' _ _ _ ?_
            clear hK' K' hS dd
            have M3 := newO v2 (.cells #[.pointer (some ⟨A.R, 0, none⟩), .int .i64 A.p.nth, .chan (some (w.heap.size + 1 + 1)), .chan (some (w.heap.size + 1 + 1 + 1)), .pointer none, .int .i64 0, .int .i8 0, .int .i64 0, .int .i64 0, .int .i64 0, .int .i64 0, .int .i64 0, .bool false, .bool false] 205)
            have q0 := (cell?_of_block (M3.old _ (lt_of_cell q0))).trans q0
            have q1 := (cell?_of_block (M3.old _ (lt_of_cell q1))).trans q1
            have z3 := M3.size
            generalize v2.alloc (.cells #[.pointer (some ⟨A.R, 0, none⟩), .int .i64 A.p.nth, .chan (some (w.heap.size + 1 + 1)), .chan (some (w.heap.size + 1 + 1 + 1)), .pointer none, .int .i64 0, .int .i8 0, .int .i64 0, .int .i64 0, .int .i64 0, .int .i64 0, .int .i64 0, .bool false, .bool false] 205) = v3 at M3 q0 q1 z3 ⊢
            refine ⟨fun _ => ⟨q0, q1⟩, ?_⟩
            try walk_nrm
            have hc : v3.heap[w.heap.size + 1 + 1 + 1 + 1]? = some (.cells #[.pointer none] 33) := by
              have h := (M3.old _ (by omega)).trans (M2.is)
              have e : v1.heap.size = w.heap.size + 1 + 1 + 1 + 1 := by omega
              rw [e] at h
              exact h
            refine anyX_one (i := 11) (by kernel_rfl) (opX_storeC (vs := #[.pointer (some ⟨w.heap.size + 1 + 1 + 1 + 1 + 1, 0, none⟩)]) rfl (by rfl) rfl rfl rfl rfl hc (by first | kernel_rfl | rfl) (Nat.le_of_ble_eq_true rfl) (by simp [Value.oneCell']) (Cfg.Free.cells (free_fresh hs.out (by omega))) (fun wf SF => ?_))
            have q0 := (cell?_of_block (SF.other _ (by have := lt_of_cell c0; simp only at this ⊢; omega))).trans q0
            have q1 := (cell?_of_block (SF.other _ (by have := lt_of_cell r0; simp only at this ⊢; omega))).trans q1
            refine ⟨fun _ => ⟨q0, q1⟩, ?_⟩
            try walk_nrm
            refine anyX_end (by kernel_rfl) ?_
            refine K _ _ _ ⟨rfl, (w.heap.size + 1 + 1), (w.heap.size + 1 + 1 + 1), (w.heap.size + 1 + 1 + 1 + 1 + 1), (w.heap.size + 1 + 1 + 1 + 1), ⟨?_, fun b hb => ?_, ?_, ?_, ?_, ?_, by omega, by omega, by omega, by omega, by omega⟩, ⟨rfl, rfl, rfl, rfl, rfl, rfl, trivial⟩⟩
            · rw [SF.size]; omega
            · exact (SF.other _ (by omega)).trans ((M3.old _ (by omega)).trans ((M2.old _ (by omega)).trans ((M1.old _ (by omega)).trans ((M0.old _ (by omega)).trans (rfl)))))
            · have h := (M3.old _ (by omega)).trans ((M2.old _ (by omega)).trans ((M1.old _ (by omega)).trans (M0.is)))
              have e : w2.heap.size = w.heap.size + 1 + 1 := by omega
              rw [e] at h
              exact (SF.other _ (by omega)).trans h
            · have h := (M3.old _ (by omega)).trans ((M2.old _ (by omega)).trans (M1.is))
              have e : v0.heap.size = w.heap.size + 1 + 1 + 1 := by omega
              rw [e] at h
              exact (SF.other _ (by omega)).trans h
            · have h := M3.is
              have e : v2.heap.size = w.heap.size + 1 + 1 + 1 + 1 + 1 := by omega
              rw [e] at h
              exact (SF.other _ (by omega)).trans h
            · exact SF.is
      · refine opX_nw rfl (by rfl) (by first | exact nx_of rfl | exact nx_nil rfl rfl | exact nx_int rfl rfl rfl) (fun dd hS K' hK' => ?_)
        go_simp
        refine hK' _ _ _ ?_
        clear hK' K' hS dd
        have M1 := newO v0 (.cells #[.pointer none] 33)
        have q0 := (cell?_of_block (M1.old _ (lt_of_cell q0))).trans q0
        have q1 := (cell?_of_block (M1.old _ (lt_of_cell q1))).trans q1
        have z1 := M1.size
        generalize v0.alloc (.cells #[.pointer none] 33) = v1 at M1 q0 q1 z1 ⊢
        refine ⟨fun _ => ⟨q0, q1⟩, ?_⟩
        try walk_nrm
        refine anyX_one (i := 7) (by kernel_rfl) ?_
        · refine opX_nw rfl (by rfl) (by first | exact nx_of rfl | exact nx_nil rfl rfl | exact nx_int rfl rfl rfl) (fun dd hS K' hK' => ?_)
          go_simp
          refine hK' _ _ _ ?_
          clear hK' K' hS dd
          have M2 := newO v1 (.chan 0 #[] false 0 0 false)
          have q0 := (cell?_of_block (M2.old _ (lt_of_cell q0))).trans q0
          have q1 := (cell?_of_block (M2.old _ (lt_of_cell q1))).trans q1
          have z2 := M2.size
          generalize v1.alloc (.chan 0 #[] false 0 0 false) = v2 at M2 q0 q1 z2 ⊢
          refine ⟨fun _ => ⟨q0, q1⟩, ?_⟩
          try walk_nrm
          first | (apply anyX_tW (i := 8) rfl; (focus rfl); (focus (exact nx rfl)); (focus (rintro σ' w' ⟨s0, s1⟩ d K hK; go_simp; exact hK)); (focus kernel_rfl); (focus (exact ⟨q0, q1⟩))) | (refine anyX_tU (i := 8) rfl rfl (by kernel_rfl) (by exact ⟨q0, q1⟩) ?_)
          try walk_nrm
          refine anyX_one (i := 9) (by kernel_rfl) ?_
          · refine opX_nw rfl (by rfl) (by first | exact nx_of rfl | exact nx_nil rfl rfl | exact nx_int rfl rfl rfl) (fun dd hS K' hK' => ?_)
            go_simp
            refine hK' _ _ _ ?_
            clear hK' K' hS dd
            have M3 := newO v2 (.cells #[.pointer (some ⟨A.R, 0, none⟩), .int .i64 A.p.nth, .chan (some (w.heap.size + 1 + 1)), .chan (some (w.heap.size + 1 + 1 + 1 + 1)), .pointer none, .int .i64 0, .int .i8 0, .int .i64 0, .int .i64 0, .int .i64 0, .int .i64 0, .int .i64 0, .bool false, .bool false] 205)
            have q0 := (cell?_of_block (M3.old _ (lt_of_cell q0))).trans q0
            have q1 := (cell?_of_block (M3.old _ (lt_of_cell q1))).trans q1
            have z3 := M3.size
            generalize v2.alloc (.cells #[.pointer (some ⟨A.R, 0, none⟩), .int .i64 A.p.nth, .chan (some (w.heap.size + 1 + 1)), .chan (some (w.heap.size + 1 + 1 + 1 + 1)), .pointer none, .int .i64 0, .int .i8 0, .int .i64 0, .int .i64 0, .int .i64 0, .int .i64 0, .int .i64 0, .bool false, .bool false] 205) = v3 at M3 q0 q1 z3 ⊢
            refine ⟨fun _ => ⟨q0, q1⟩, ?_⟩
            try walk_nrm
            have hc : v3.heap[w.heap.size + 1 + 1 + 1]? = some (.cells #[.pointer none] 33) := by
              have h := (M3.old _ (by omega)).trans ((M2.old _ (by omega)).trans (M1.is))
              have e : v0.heap.size = w.heap.size + 1 + 1 + 1 := by omega
              rw [e] at h
              exact h
            refine anyX_one (i := 11) (by kernel_rfl) (opX_storeC (vs := #[.pointer (some ⟨w.heap.size + 1 + 1 + 1 + 1 + 1, 0, none⟩)]) rfl (by rfl) rfl rfl rfl rfl hc (by first | kernel_rfl | rfl) (Nat.le_of_ble_eq_true rfl) (by simp [Value.oneCell']) (Cfg.Free.cells (free_fresh hs.out (by omega))) (fun wf SF => ?_))
            have q0 := (cell?_of_block (SF.other _ (by have := lt_of_cell c0; simp only at this ⊢; omega))).trans q0
            have q1 := (cell?_of_block (SF.other _ (by have := lt_of_cell r0; simp only at this ⊢; omega))).trans q1
            refine ⟨fun _ => ⟨q0, q1⟩, ?_⟩
            try walk_nrm
            refine anyX_end (by kernel_rfl) ?_
            refine K _ _ _ ⟨rfl, (w.heap.size + 1 + 1), (w.heap.size + 1 + 1 + 1 + 1), (w.heap.size + 1 + 1 + 1 + 1 + 1), (w.heap.size + 1 + 1 + 1), ⟨?_, fun b hb => ?_, ?_, ?_, ?_, ?_, by omega, by omega, by omega, by omega, by omega⟩, ⟨rfl, rfl, rfl, rfl, rfl, rfl, trivial⟩⟩
            · rw [SF.size]; omega
            · exact (SF.other _ (by omega)).trans ((M3.old _ (by omega)).trans ((M2.old _ (by omega)).trans ((M1.old _ (by omega)).trans ((M0.old _ (by omega)).trans (rfl)))))
            · have h := (M3.old _ (by omega)).trans ((M2.old _ (by omega)).trans ((M1.old _ (by omega)).trans (M0.is)))
              have e : w2.heap.size = w.heap.size + 1 + 1 := by omega
              rw [e] at h
              exact (SF.other _ (by omega)).trans h
            · have h := (M3.old _ (by omega)).trans (M2.is)
              have e : v1.heap.size = w.heap.size + 1 + 1 + 1 + 1 := by omega
              rw [e] at h
              exact (SF.other _ (by omega)).trans h
            · have h := M3.is
              have e : v2.heap.size = w.heap.size + 1 + 1 + 1 + 1 + 1 := by omega
              rw [e] at h
              exact (SF.other _ (by omega)).trans h
            · exact SF.is
    · refine opX_nw rfl (by rfl) (by first | exact nx_of rfl | exact nx_nil rfl rfl | exact nx_int rfl rfl rfl) (fun dd hS K' hK' => ?_)
      go_simp
      refine hK' _ _ _ ?_
      clear hK' K' hS dd
      have M0 := newO w2 (.chan 0 #[] false 0 0 false)
      have q0 := (cell?_of_block (M0.old _ (lt_of_cell q0))).trans q0
      have q1 := (cell?_of_block (M0.old _ (lt_of_cell q1))).trans q1
      have z0 := M0.size
      generalize w2.alloc (.chan 0 #[] false 0 0 false) = v0 at M0 q0 q1 z0 ⊢
      refine ⟨fun _ => ⟨q0, q1⟩, ?_⟩
      try walk_nrm
      refine anyX_two (i := 6) (j := 10) (by kernel_rfl) ?_ ?_
      · refine opX_nw rfl (by rfl) (by first | exact nx_of rfl | exact nx_nil rfl rfl | exact nx_int rfl rfl rfl) (fun dd hS K' hK' => ?_)
        go_simp
        refine hK' _ _ _ ?_
        clear hK' K' hS dd
        have M1 := newO v0 (.chan 0 #[] false 0 0 false)
        have q0 := (cell?_of_block (M1.old _ (lt_of_cell q0))).trans q0
        have q1 := (cell?_of_block (M1.old _ (lt_of_cell q1))).trans q1
        have z1 := M1.size
        generalize v0.alloc (.chan 0 #[] false 0 0 false) = v1 at M1 q0 q1 z1 ⊢
        refine ⟨fun _ => ⟨q0, q1⟩, ?_⟩
        try walk_nrm
        first | (apply anyX_tW (i := 8) rfl; (focus rfl); (focus (exact nx rfl)); (focus (rintro σ' w' ⟨s0, s1⟩ d K hK; go_simp; exact hK)); (focus kernel_rfl); (focus (exact ⟨q0, q1⟩))) | (refine anyX_tU (i := 8) rfl rfl (by kernel_rfl) (by exact ⟨q0, q1⟩) ?_)
        try walk_nrm
        refine anyX_two (i := 9) (j := 10) (by kernel_rfl) ?_ ?_
        · refine opX_nw rfl (by rfl) (by first | exact nx_of rfl | exact nx_nil rfl rfl | exact nx_int rfl rfl rfl) (fun dd hS K' hK' => ?_)
          go_simp
          refine hK' _ _ _ ?_
          clear hK' K' hS dd
          have M2 := newO v1 (.cells #[.pointer (some ⟨A.R, 0, none⟩), .int .i64 A.p.nth, .chan (some (w.heap.size + 1 + 1 + 1)), .chan (some (w.heap.size + 1 + 1)), .pointer none, .int .i64 0, .int .i8 0, .int .i64 0, .int .i64 0, .int .i64 0, .int .i64 0, .int .i64 0, .bool false, .bool false] 205)
          have q0 := (cell?_of_block (M2.old _ (lt_of_cell q0))).trans q0
          have q1 := (cell?_of_block (M2.old _ (lt_of_cell q1))).trans q1
          have z2 := M2.size
          generalize v1.alloc (.cells #[.pointer (some ⟨A.R, 0, none⟩), .int .i64 A.p.nth, .chan (some (w.heap.size + 1 + 1 + 1)), .chan (some (w.heap.size + 1 + 1)), .pointer none, .int .i64 0, .int .i8 0, .int .i64 0, .int .i64 0, .int .i64 0, .int .i64 0, .int .i64 0, .bool false, .bool false] 205) = v2 at M2 q0 q1 z2 ⊢
          refine ⟨fun _ => ⟨q0, q1⟩, ?_⟩
          try walk_nrm
          refine anyX_one (i := 10) (by kernel_rfl) ?_
          · refine opX_nw rfl (by rfl) (by first | exact nx_of rfl | exact nx_nil rfl rfl | exact nx_int rfl rfl rfl) (fun dd hS K' hK' => ?_)
            go_simp
            refine hK' _ _ _ ?_
            clear hK' K' hS dd
            have M3 := newO v2 (.cells #[.pointer none] 33)
            have q0 := (cell?_of_block (M3.old _ (lt_of_cell q0))).trans q0
            have q1 := (cell?_of_block (M3.old _ (lt_of_cell q1))).trans q1
            have z3 := M3.size
            generalize v2.alloc (.cells #[.pointer none] 33) = v3 at M3 q0 q1 z3 ⊢
            refine ⟨fun _ => ⟨q0, q1⟩, ?_⟩
            try walk_nrm
            have hc : v3.heap[w.heap.size + 1 + 1 + 1 + 1 + 1]? = some (.cells #[.pointer none] 33) := by
              have h := M3.is
              have e : v2.heap.size = w.heap.size + 1 + 1 + 1 + 1 + 1 := by omega
              rw [e] at h
              exact h
            refine anyX_one (i := 11) (by kernel_rfl) (opX_storeC (vs := #[.pointer (some ⟨w.heap.size + 1 + 1 + 1 + 1, 0, none⟩)]) rfl (by rfl) rfl rfl rfl rfl hc (by first | kernel_rfl | rfl) (Nat.le_of_ble_eq_true rfl) (by simp [Value.oneCell']) (Cfg.Free.cells (free_fresh hs.out (by omega))) (fun wf SF => ?_))
            have q0 := (cell?_of_block (SF.other _ (by have := lt_of_cell c0; simp only at this ⊢; omega))).trans q0
            have q1 := (cell?_of_block (SF.other _ (by have := lt_of_cell r0; simp only at this ⊢; omega))).trans q1
            refine ⟨fun _ => ⟨q0, q1⟩, ?_⟩
            try walk_nrm
            refine anyX_end (by kernel_rfl) ?_
            refine K _ _ _ ⟨rfl, (w.heap.size + 1 + 1 + 1), (w.heap.size + 1 + 1), (w.heap.size + 1 + 1 + 1 + 1), (w.heap.size + 1 + 1 + 1 + 1 + 1), ⟨?_, fun b hb => ?_, ?_, ?_, ?_, ?_, by omega, by omega, by omega, by omega, by omega⟩, ⟨rfl, rfl, rfl, rfl, rfl, rfl, trivial⟩⟩
            · rw [SF.size]; omega
            · exact (SF.other _ (by omega)).trans ((M3.old _ (by omega)).trans ((M2.old _ (by omega)).trans ((M1.old _ (by omega)).trans ((M0.old _ (by omega)).trans (rfl)))))
            · have h := (M3.old _ (by omega)).trans ((M2.old _ (by omega)).trans (M1.is))
              have e : v0.heap.size = w.heap.size + 1 + 1 + 1 := by omega
              rw [e] at h
              exact (SF.other _ (by omega)).trans h
            · have h := (M3.old _ (by omega)).trans ((M2.old _ (by omega)).trans ((M1.old _ (by omega)).trans (M0.is)))
              have e : w2.heap.size = w.heap.size + 1 + 1 := by omega
              rw [e] at h
              exact (SF.other _ (by omega)).trans h
            · have h := (M3.old _ (by omega)).trans (M2.is)
              have e : v1.heap.size = w.heap.size + 1 + 1 + 1 + 1 := by omega
              rw [e] at h
              exact (SF.other _ (by omega)).trans h
            · exact SF.is
        · refine opX_nw rfl (by rfl) (by first | exact nx_of rfl | exact nx_nil rfl rfl | exact nx_int rfl rfl rfl) (fun dd hS K' hK' => ?_)
          go_simp
          refine hK' _ _ _ ?_
          clear hK' K' hS dd
          have M2 := newO v1 (.cells #[.pointer none] 33)
          have q0 := (cell?_of_block (M2.old _ (lt_of_cell q0))).trans q0
          have q1 := (cell?_of_block (M2.old _ (lt_of_cell q1))).trans q1
          have z2 := M2.size
          generalize v1.alloc (.cells #[.pointer none] 33) = v2 at M2 q0 q1 z2 ⊢
          refine ⟨fun _ => ⟨q0, q1⟩, ?_⟩
          try walk_nrm
          refine anyX_one (i := 9) (by kernel_rfl) ?_
          · refine opX_nw rfl (by rfl) (by first | exact nx_of rfl | exact nx_nil rfl rfl | exact nx_int rfl rfl rfl) (fun dd hS K' hK' => ?_)
            go_simp
            refine hK' _ _ _ ?_
            clear hK' K' hS dd
            have M3 := newO v2 (.cells #[.pointer (some ⟨A.R, 0, none⟩), .int .i64 A.p.nth, .chan (some (w.heap.size + 1 + 1 + 1)), .chan (some (w.heap.size + 1 + 1)), .pointer none, .int .i64 0, .int .i8 0, .int .i64 0, .int .i64 0, .int .i64 0, .int .i64 0, .int .i64 0, .bool false, .bool false] 205)
            have q0 := (cell?_of_block (M3.old _ (lt_of_cell q0))).trans q0
            have q1 := (cell?_of_block (M3.old _ (lt_of_cell q1))).trans q1
            have z3 := M3.size
            generalize v2.alloc (.cells #[.pointer (some ⟨A.R, 0, none⟩), .int .i64 A.p.nth, .chan (some (w.heap.size + 1 + 1 + 1)), .chan (some (w.heap.size + 1 + 1)), .pointer none, .int .i64 0, .int .i8 0, .int .i64 0, .int .i64 0, .int .i64 0, .int .i64 0, .int .i64 0, .bool false, .bool false] 205) = v3 at M3 q0 q1 z3 ⊢
            refine ⟨fun _ => ⟨q0, q1⟩, ?_⟩
            try walk_nrm
            have hc : v3.heap[w.heap.size + 1 + 1 + 1 + 1]? = some (.cells #[.pointer none] 33) := by
              have h := (M3.old _ (by omega)).trans (M2.is)
              have e : v1.heap.size = w.heap.size + 1 + 1 + 1 + 1 := by omega
              rw [e] at h
              exact h
            refine anyX_one (i := 11) (by kernel_rfl) (opX_storeC (vs := #[.pointer (some ⟨w.heap.size + 1 + 1 + 1 + 1 + 1, 0, none⟩)]) rfl (by rfl) rfl rfl rfl rfl hc (by first | kernel_rfl | rfl) (Nat.le_of_ble_eq_true rfl) (by simp [Value.oneCell']) (Cfg.Free.cells (free_fresh hs.out (by omega))) (fun wf SF => ?_))
            have q0 := (cell?_of_block (SF.other _ (by have := lt_of_cell c0; simp only at this ⊢; omega))).trans q0
            have q1 := (cell?_of_block (SF.other _ (by have := lt_of_cell r0; simp only at this ⊢; omega))).trans q1
            refine ⟨fun _ => ⟨q0, q1⟩, ?_⟩
            try walk_nrm
            refine anyX_end (by kernel_rfl) ?_
            refine K _ _ _ ⟨rfl, (w.heap.size + 1 + 1 + 1), (w.heap.size + 1 + 1), (w.heap.size + 1 + 1 + 1 + 1 + 1), (w.heap.size + 1 + 1 + 1 + 1), ⟨?_, fun b hb => ?_, ?_, ?_, ?_, ?_, by omega, by omega, by omega, by omega, by omega⟩, ⟨rfl, rfl, rfl, rfl, rfl, rfl, trivial⟩⟩
            · rw [SF.size]; omega
            · exact (SF.other _ (by omega)).trans ((M3.old _ (by omega)).trans ((M2.old _ (by omega)).trans ((M1.old _ (by omega)).trans ((M0.old _ (by omega)).trans (rfl)))))
            · have h := (M3.old _ (by omega)).trans ((M2.old _ (by omega)).trans (M1.is))
              have e : v0.heap.size = w.heap.size + 1 + 1 + 1 := by omega
              rw [e] at h
              exact (SF.other _ (by omega)).trans h
            · have h := (M3.old _ (by omega)).trans ((M2.old _ (by omega)).trans ((M1.old _ (by omega)).trans (M0.is)))
              have e : w2.heap.size = w.heap.size + 1 + 1 := by omega
              rw [e] at h
              exact (SF.other _ (by omega)).trans h
            · have h := M3.is
              have e : v2.heap.size = w.heap.size + 1 + 1 + 1 + 1 + 1 := by omega
              rw [e] at h
              exact (SF.other _ (by omega)).trans h
            · exact SF.is
      · refine opX_nw rfl (by rfl) (by first | exact nx_of rfl | exact nx_nil rfl rfl | exact nx_int rfl rfl rfl) (fun dd hS K' hK' => ?_)
        go_simp
        refine hK' _ _ _ ?_
        clear hK' K' hS dd
        have M1 := newO v0 (.cells #[.pointer none] 33)
        have q0 := (cell?_of_block (M1.old _ (lt_of_cell q0))).trans q0
        have q1 := (cell?_of_block (M1.old _ (lt_of_cell q1))).trans q1
        have z1 := M1.size
        generalize v0.alloc (.cells #[.pointer none] 33) = v1 at M1 q0 q1 z1 ⊢
        refine ⟨fun _ => ⟨q0, q1⟩, ?_⟩
        try walk_nrm
        refine anyX_one (i := 6) (by kernel_rfl) ?_
        · refine opX_nw rfl (by rfl) (by first | exact nx_of rfl | exact nx_nil rfl rfl | exact nx_int rfl rfl rfl) (fun dd hS K' hK' => ?_)
          go_simp
          refine hK' _ _ _ ?_
          clear hK' K' hS dd
          have M2 := newO v1 (.chan 0 #[] false 0 0 false)
          have q0 := (cell?_of_block (M2.old _ (lt_of_cell q0))).trans q0
          have q1 := (cell?_of_block (M2.old _ (lt_of_cell q1))).trans q1
          have z2 := M2.size
          generalize v1.alloc (.chan 0 #[] false 0 0 false) = v2 at M2 q0 q1 z2 ⊢
          refine ⟨fun _ => ⟨q0, q1⟩, ?_⟩
          try walk_nrm
          first | (apply anyX_tW (i := 8) rfl; (focus rfl); (focus (exact nx rfl)); (focus (rintro σ' w' ⟨s0, s1⟩ d K hK; go_simp; exact hK)); (focus kernel_rfl); (focus (exact ⟨q0, q1⟩))) | (refine anyX_tU (i := 8) rfl rfl (by kernel_rfl) (by exact ⟨q0, q1⟩) ?_)
          try walk_nrm
          refine anyX_one (i := 9) (by kernel_rfl) ?_
          · refine opX_nw rfl (by rfl) (by first | exact nx_of rfl | exact nx_nil rfl rfl | exact nx_int rfl rfl rfl) (fun dd hS K' hK' => ?_)
            go_simp
            refine hK' _ _ _ ?_
            clear hK' K' hS dd
            have M3 := newO v2 (.cells #[.pointer (some ⟨A.R, 0, none⟩), .int .i64 A.p.nth, .chan (some (w.heap.size + 1 + 1 + 1 + 1)), .chan (some (w.heap.size + 1 + 1)), .pointer none, .int .i64 0, .int .i8 0, .int .i64 0, .int .i64 0, .int .i64 0, .int .i64 0, .int .i64 0, .bool false, .bool false] 205)
            have q0 := (cell?_of_block (M3.old _ (lt_of_cell q0))).trans q0
            have q1 := (cell?_of_block (M3.old _ (lt_of_cell q1))).trans q1
            have z3 := M3.size
            generalize v2.alloc (.cells #[.pointer (some ⟨A.R, 0, none⟩), .int .i64 A.p.nth, .chan (some (w.heap.size + 1 + 1 + 1 + 1)), .chan (some (w.heap.size + 1 + 1)), .pointer none, .int .i64 0, .int .i8 0, .int .i64 0, .int .i64 0, .int .i64 0, .int .i64 0, .int .i64 0, .bool false, .bool false] 205) = v3 at M3 q0 q1 z3 ⊢
            refine ⟨fun _ => ⟨q0, q1⟩, ?_⟩
            try walk_nrm
            have hc : v3.heap[w.heap.size + 1 + 1 + 1]? = some (.cells #[.pointer none] 33) := by
              have h := (M3.old _ (by omega)).trans ((M2.old _ (by omega)).trans (M1.is))
              have e : v0.heap.size = w.heap.size + 1 + 1 + 1 := by omega
              rw [e] at h
              exact h
            refine anyX_one (i := 11) (by kernel_rfl) (opX_storeC (vs := #[.pointer (some ⟨w.heap.size + 1 + 1 + 1 + 1 + 1, 0, none⟩)]) rfl (by rfl) rfl rfl rfl rfl hc (by first | kernel_rfl | rfl) (Nat.le_of_ble_eq_true rfl) (by simp [Value.oneCell']) (Cfg.Free.cells (free_fresh hs.out (by omega))) (fun wf SF => ?_))
            have q0 := (cell?_of_block (SF.other _ (by have := lt_of_cell c0; simp only at this ⊢; omega))).trans q0
            have q1 := (cell?_of_block (SF.other _ (by have := lt_of_cell r0; simp only at this ⊢; omega))).trans q1
            refine ⟨fun _ => ⟨q0, q1⟩, ?_⟩
            try walk_nrm
            refine anyX_end (by kernel_rfl) ?_
            refine K _ _ _ ⟨rfl, (w.heap.size + 1 + 1 + 1 + 1), (w.heap.size + 1 + 1), (w.heap.size + 1 + 1 + 1 + 1 + 1), (w.heap.size + 1 + 1 + 1), ⟨?_, fun b hb => ?_, ?_, ?_, ?_, ?_, by omega, by omega, by omega, by omega, by omega⟩, ⟨rfl, rfl, rfl, rfl, rfl, rfl, trivial⟩⟩
            · rw [SF.size]; omega
            · exact (SF.other _ (by omega)).trans ((M3.old _ (by omega)).trans ((M2.old _ (by omega)).trans ((M1.old _ (by omega)).trans ((M0.old _ (by omega)).trans (rfl)))))
            · have h := (M3.old _ (by omega)).trans (M2.is)
              have e : v1.heap.size = w.heap.size + 1 + 1 + 1 + 1 := by omega
              rw [e] at h
              exact (SF.other _ (by omega)).trans h
            · have h := (M3.old _ (by omega)).trans ((M2.old _ (by omega)).trans ((M1.old _ (by omega)).trans (M0.is)))
              have e : w2.heap.size = w.heap.size + 1 + 1 := by omega
              rw [e] at h
              exact (SF.other _ (by omega)).trans h
            · have h := M3.is
              have e : v2.heap.size = w.heap.size + 1 + 1 + 1 + 1 + 1 := by omega
              rw [e] at h
              exact (SF.other _ (by omega)).trans h
            · exact SF.is
    · refine opX_nw rfl (by rfl) (by first | exact nx_of rfl | exact nx_nil rfl rfl | exact nx_int rfl rfl rfl) (fun dd hS K' hK' => ?_)
      go_simp
      refine hK' _ _ _ ?_
      clear hK' K' hS dd
      have M0 := newO w2 (.cells #[.pointer none] 33)
      have q0 := (cell?_of_block (M0.old _ (lt_of_cell q0))).trans q0
      have q1 := (cell?_of_block (M0.old _ (lt_of_cell q1))).trans q1
      have z0 := M0.size
      generalize w2.alloc (.cells #[.pointer none] 33) = v0 at M0 q0 q1 z0 ⊢
      refine ⟨fun _ => ⟨q0, q1⟩, ?_⟩
      try walk_nrm
      refine anyX_two (i := 6) (j := 7) (by kernel_rfl) ?_ ?_
      · refine opX_nw rfl (by rfl) (by first | exact nx_of rfl | exact nx_nil rfl rfl | exact nx_int rfl rfl rfl) (fun dd hS K' hK' => ?_)
        go_simp
        refine hK' _ _ _ ?_
        clear hK' K' hS dd
        have M1 := newO v0 (.chan 0 #[] false 0 0 false)
        have q0 := (cell?_of_block (M1.old _ (lt_of_cell q0))).trans q0
        have q1 := (cell?_of_block (M1.old _ (lt_of_cell q1))).trans q1
        have z1 := M1.size
        generalize v0.alloc (.chan 0 #[] false 0 0 false) = v1 at M1 q0 q1 z1 ⊢
        refine ⟨fun _ => ⟨q0, q1⟩, ?_⟩
        try walk_nrm
        refine anyX_one (i := 7) (by kernel_rfl) ?_
        · refine opX_nw rfl (by rfl) (by first | exact nx_of rfl | exact nx_nil rfl rfl | exact nx_int rfl rfl rfl) (fun dd hS K' hK' => ?_)
          go_simp
          refine hK' _ _ _ ?_
          clear hK' K' hS dd
          have M2 := newO v1 (.chan 0 #[] false 0 0 false)
          have q0 := (cell?_of_block (M2.old _ (lt_of_cell q0))).trans q0
          have q1 := (cell?_of_block (M2.old _ (lt_of_cell q1))).trans q1
          have z2 := M2.size
          generalize v1.alloc (.chan 0 #[] false 0 0 false) = v2 at M2 q0 q1 z2 ⊢
          refine ⟨fun _ => ⟨q0, q1⟩, ?_⟩
          try walk_nrm
          first | (apply anyX_tW (i := 8) rfl; (focus rfl); (focus (exact nx rfl)); (focus (rintro σ' w' ⟨s0, s1⟩ d K hK; go_simp; exact hK)); (focus kernel_rfl); (focus (exact ⟨q0, q1⟩))) | (refine anyX_tU (i := 8) rfl rfl (by kernel_rfl) (by exact ⟨q0, q1⟩) ?_)
          try walk_nrm
          refine anyX_one (i := 9) (by kernel_rfl) ?_
          · refine opX_nw rfl (by rfl) (by first | exact nx_of rfl | exact nx_nil rfl rfl | exact nx_int rfl rfl rfl) (fun dd hS K' hK' => ?_)
            go_simp
            refine hK' _ _ _ ?_
            clear hK' K' hS dd
            have M3 := newO v2 (.cells #[.pointer (some ⟨A.R, 0, none⟩), .int .i64 A.p.nth, .chan (some (w.heap.size + 1 + 1 + 1)), .chan (some (w.heap.size + 1 + 1 + 1 + 1)), .pointer none, .int .i64 0, .int .i8 0, .int .i64 0, .int .i64 0, .int .i64 0, .int .i64 0, .int .i64 0, .bool false, .bool false] 205)
            have q0 := (cell?_of_block (M3.old _ (lt_of_cell q0))).trans q0
            have q1 := (cell?_of_block (M3.old _ (lt_of_cell q1))).trans q1
            have z3 := M3.size
            generalize v2.alloc (.cells #[.pointer (some ⟨A.R, 0, none⟩), .int .i64 A.p.nth, .chan (some (w.heap.size + 1 + 1 + 1)), .chan (some (w.heap.size + 1 + 1 + 1 + 1)), .pointer none, .int .i64 0, .int .i8 0, .int .i64 0, .int .i64 0, .int .i64 0, .int .i64 0, .int .i64 0, .bool false, .bool false] 205) = v3 at M3 q0 q1 z3 ⊢
            refine ⟨fun _ => ⟨q0, q1⟩, ?_⟩
            try walk_nrm
            have hc : v3.heap[w.heap.size + 1 + 1]? = some (.cells #[.pointer none] 33) := by
              have h := (M3.old _ (by omega)).trans ((M2.old _ (by omega)).trans ((M1.old _ (by omega)).trans (M0.is)))
              have e : w2.heap.size = w.heap.size + 1 + 1 := by omega
              rw [e] at h
              exact h
            refine anyX_one (i := 11) (by kernel_rfl) (opX_storeC (vs := #[.pointer (some ⟨w.heap.size + 1 + 1 + 1 + 1 + 1, 0, none⟩)]) rfl (by rfl) rfl rfl rfl rfl hc (by first | kernel_rfl | rfl) (Nat.le_of_ble_eq_true rfl) (by simp [Value.oneCell']) (Cfg.Free.cells (free_fresh hs.out (by omega))) (fun wf SF => ?_))
            have q0 := (cell?_of_block (SF.other _ (by have := lt_of_cell c0; simp only at this ⊢; omega))).trans q0
            have q1 := (cell?_of_block (SF.other _ (by have := lt_of_cell r0; simp only at this ⊢; omega))).trans q1
            refine ⟨fun _ => ⟨q0, q1⟩, ?_⟩
            try walk_nrm
            refine anyX_end (by kernel_rfl) ?_
            refine K _ _ _ ⟨rfl, (w.heap.size + 1 + 1 + 1), (w.heap.size + 1 + 1 + 1 + 1), (w.heap.size + 1 + 1 + 1 + 1 + 1), (w.heap.size + 1 + 1), ⟨?_, fun b hb => ?_, ?_, ?_, ?_, ?_, by omega, by omega, by omega, by omega, by omega⟩, ⟨rfl, rfl, rfl, rfl, rfl, rfl, trivial⟩⟩
            · rw [SF.size]; omega
            · exact (SF.other _ (by omega)).trans ((M3.old _ (by omega)).trans ((M2.old _ (by omega)).trans ((M1.old _ (by omega)).trans ((M0.old _ (by omega)).trans (rfl)))))
            · have h := (M3.old _ (by omega)).trans ((M2.old _ (by omega)).trans (M1.is))
              have e : v0.heap.size = w.heap.size + 1 + 1 + 1 := by omega
              rw [e] at h
              exact (SF.other _ (by omega)).trans h
            · have h := (M3.old _ (by omega)).trans (M2.is)
              have e : v1.heap.size = w.heap.size + 1 + 1 + 1 + 1 := by omega
              rw [e] at h
              exact (SF.other _ (by omega)).trans h
            · have h := M3.is
              have e : v2.heap.size = w.heap.size + 1 + 1 + 1 + 1 + 1 := by omega
              rw [e] at h
              exact (SF.other _ (by omega)).trans h
            · exact SF.is
      · refine opX_nw rfl (by rfl) (by first | exact nx_of rfl | exact nx_nil rfl rfl | exact nx_int rfl rfl rfl) (fun dd hS K' hK' => ?_)
        go_simp
        refine hK' _ _ _ ?_
        clear hK' K' hS dd
        have M1 := newO v0 (.chan 0 #[] false 0 0 false)
        have q0 := (cell?_of_block (M1.old _ (lt_of_cell q0))).trans q0
        have q1 := (cell?_of_block (M1.old _ (lt_of_cell q1))).trans q1
        have z1 := M1.size
        generalize v0.alloc (.chan 0 #[] false 0 0 false) = v1 at M1 q0 q1 z1 ⊢
        refine ⟨fun _ => ⟨q0, q1⟩, ?_⟩
        try walk_nrm
        refine anyX_one (i := 6) (by kernel_rfl) ?_
        · refine opX_nw rfl (by rfl) (by first | exact nx_of rfl | exact nx_nil rfl rfl | exact nx_int rfl rfl rfl) (fun dd hS K' hK' => ?_)
          go_simp
          refine hK' _ _ _ ?_
          clear hK' K' hS dd
          have M2 := newO v1 (.chan 0 #[] false 0 0 false)
          have q0 := (cell?_of_block (M2.old _ (lt_of_cell q0))).trans q0
          have q1 := (cell?_of_block (M2.old _ (lt_of_cell q1))).trans q1
          have z2 := M2.size
          generalize v1.alloc (.chan 0 #[] false 0 0 false) = v2 at M2 q0 q1 z2 ⊢
          refine ⟨fun _ => ⟨q0, q1⟩, ?_⟩
          try walk_nrm
          first | (apply anyX_tW (i := 8) rfl; (focus rfl); (focus (exact nx rfl)); (focus (rintro σ' w' ⟨s0, s1⟩ d K hK; go_simp; exact hK)); (focus kernel_rfl); (focus (exact ⟨q0, q1⟩))) | (refine anyX_tU (i := 8) rfl rfl (by kernel_rfl) (by exact ⟨q0, q1⟩) ?_)
          try walk_nrm
          refine anyX_one (i := 9) (by kernel_rfl) ?_
          · refine opX_nw rfl (by rfl) (by first | exact nx_of rfl | exact nx_nil rfl rfl | exact nx_int rfl rfl rfl) (fun dd hS K' hK' => ?_)
            go_simp
            refine hK' _ _ _ ?_
            clear hK' K' hS dd
            have M3 := newO v2 (.cells #[.pointer (some ⟨A.R, 0, none⟩), .int .i64 A.p.nth, .chan (some (w.heap.size + 1 + 1 + 1 + 1)), .chan (some (w.heap.size + 1 + 1 + 1)), .pointer none, .int .i64 0, .int .i8 0, .int .i64 0, .int .i64 0, .int .i64 0, .int .i64 0, .int .i64 0, .bool false, .bool false] 205)
            have q0 := (cell?_of_block (M3.old _ (lt_of_cell q0))).trans q0
            have q1 := (cell?_of_block (M3.old _ (lt_of_cell q1))).trans q1
            have z3 := M3.size
            generalize v2.alloc (.cells #[.pointer (some ⟨A.R, 0, none⟩), .int .i64 A.p.nth, .chan (some (w.heap.size + 1 + 1 + 1 + 1)), .chan (some (w.heap.size + 1 + 1 + 1)), .pointer none, .int .i64 0, .int .i8 0, .int .i64 0, .int .i64 0, .int .i64 0, .int .i64 0, .int .i64 0, .bool false, .bool false] 205) = v3 at M3 q0 q1 z3 ⊢
            refine ⟨fun _ => ⟨q0, q1⟩, ?_⟩
            try walk_nrm
            have hc : v3.heap[w.heap.size + 1 + 1]? = some (.cells #[.pointer none] 33) := by
              have h := (M3.old _ (by omega)).trans ((M2.old _ (by omega)).trans ((M1.old _ (by omega)).trans (M0.is)))
              have e : w2.heap.size = w.heap.size + 1 + 1 := by omega
              rw [e] at h
              exact h
            refine anyX_one (i := 11) (by kernel_rfl) (opX_storeC (vs := #[.pointer (some ⟨w.heap.size + 1 + 1 + 1 + 1 + 1, 0, none⟩)]) rfl (by rfl) rfl rfl rfl rfl hc (by first | kernel_rfl | rfl) (Nat.le_of_ble_eq_true rfl) (by simp [Value.oneCell']) (Cfg.Free.cells (free_fresh hs.out (by omega))) (fun wf SF => ?_))
            have q0 := (cell?_of_block (SF.other _ (by have := lt_of_cell c0; simp only at this ⊢; omega))).trans q0
            have q1 := (cell?_of_block (SF.other _ (by have := lt_of_cell r0; simp only at this ⊢; omega))).trans q1
            refine ⟨fun _ => ⟨q0, q1⟩, ?_⟩
            try walk_nrm
            refine anyX_end (by kernel_rfl) ?_
            refine K _ _ _ ⟨rfl, (w.heap.size + 1 + 1 + 1 + 1), (w.heap.size + 1 + 1 + 1), (w.heap.size + 1 + 1 + 1 + 1 + 1), (w.heap.size + 1 + 1), ⟨?_, fun b hb => ?_, ?_, ?_, ?_, ?_, by omega, by omega, by omega, by omega, by omega⟩, ⟨rfl, rfl, rfl, rfl, rfl, rfl, trivial⟩⟩
            · rw [SF.size]; omega
            · exact (SF.other _ (by omega)).trans ((M3.old _ (by omega)).trans ((M2.old _ (by omega)).trans ((M1.old _ (by omega)).trans ((M0.old _ (by omega)).trans (rfl)))))
            · have h := (M3.old _ (by omega)).trans (M2.is)
              have e : v1.heap.size = w.heap.size + 1 + 1 + 1 + 1 := by omega
              rw [e] at h
              exact (SF.other _ (by omega)).trans h
            · have h := (M3.old _ (by omega)).trans ((M2.old _ (by omega)).trans (M1.is))
              have e : v0.heap.size = w.heap.size + 1 + 1 + 1 := by omega
              rw [e] at h
              exact (SF.other _ (by omega)).trans h
            · have h := M3.is
              have e : v2.heap.size = w.heap.size + 1 + 1 + 1 + 1 + 1 := by omega
              rw [e] at h
              exact (SF.other _ (by omega)).trans h
            · exact SF.is
    --ENDPATHS
  · rintro a σ' w3 ⟨rfl, wk, sd, tb, tc, T, hT⟩
    obtain ⟨j, rfl, h0', h1', h2', h3', -⟩ := Tm.lit hT
    simp only at h0' h1' h2' h3'
    simp only [List.range, List.range.loop, List.map_cons, List.map_nil, h0', h1', h2', h3']
    clear h0' h1' h2' h3' hT
    have B3 : Bigger w2 w3 := ⟨T.size, T.old⟩
    have B03 : Bigger w w3 := B2.trans B3
    have M3 : GMem A none w3 := M.out.grown B03.old
    have hrc3 : w3.heap[w.heap.size]? = some (.cells #[.pointer (some ⟨A.R, 0, none⟩)] 196) := B3.is ((N2.old _ (by omega)).trans N1.is)
    have hfc3 : w3.heap[w.heap.size + 1]? = some (.cells #[.func (.func f) first cap] 40) := by have h := B3.is N2.is; rw [z1] at h; exact h
    have c0 : w3.cell? ⟨w.heap.size, 0, none⟩ = some (.pointer (some ⟨A.R, 0, none⟩)) := by unfold World.cell?; rw [hrc3]; rfl
    have ct : w3.cell? ⟨tc, 0, none⟩ = some (.pointer (some ⟨tb, 0, none⟩)) := by unfold World.cell?; rw [T.htc]; rfl
    have r0 : w3.cell? ⟨A.R, 0, none⟩ = some (.slice bo A.p.nth cp) := (cell?_of_block (B3.old _ (lt_of_cell r0))).trans r0
    have hfree : ∀ b o, w.heap[b]? = some o → (∀ x y z u v t, o ≠ .chan x y z u v t) → (∀ x y, o ≠ .cells x 205 y) → (∀ x y, o ≠ .cells x 33 y) → (cfgOf A none gs gm os out).Free (· = b) := fun b o hb n1 n2 n3 => free_of M.out (fun i hi => by cases hi) fun i hi => by
      obtain ⟨k1, h1⟩ := M.out.wkc i hi
      obtain ⟨k2, h2⟩ := M.out.sdc i hi
      exact ⟨ne_of_obj hb h1 (n1 _ _ _ _ _ _), ne_of_obj hb h2 (n1 _ _ _ _ _ _), ne_of_obj hb (M.out.tcc i hi) (n3 _ _), ne_of_obj hb (M.out.thr i hi) (n2 _ _)⟩
    have hfth : (cfgOf A none gs gm os out).Free (fun c => some c = A.thv.ownBlock) := free_own fun b hb => free_of M.out (fun i hi => by cases hi) fun i hi => by
      obtain ⟨_, _, cur, hcur⟩ := row_ty M.out.ths hb
      obtain ⟨k1, h1⟩ := M.out.wkc i hi
      obtain ⟨k2, h2⟩ := M.out.sdc i hi
      exact ⟨ne_of_obj hcur h1 (by simp), ne_of_obj hcur h2 (by simp), fun e => M.out.apart.2.1 i hi (e ▸ hb), ne_of_obj hcur (M.out.thr i hi) (by simp [thrObj])⟩
    have hffe : (cfgOf A none gs gm os out).Free (fun c => some c = A.fellv.ownBlock) := free_own fun b hb => by
      obtain ⟨_, _, cur, hcur⟩ := row_ty M.out.fell hb
      exact hfree b _ hcur (by simp) (by simp) (by simp)
    have hfR := hfree _ _ M.out.runs (by simp [runObj]) (by simp [runObj]) (by simp [runObj])
    have own3 : w3.ownsRow 0 33 1 (.slice bo A.p.nth cp) A.p.nth ((List.range A.p.nth).map fun j => .pointer (some ⟨A.tb j, 0, none⟩)) := by have h := M3.ths; rw [hthv.out] at h; exact h
    rw [hthv.out] at hfth
    replace T := Keep.mk T
    replace B3 := Keep.mk B3
    replace B03 := Keep.mk B03
    replace M3 := Keep.mk M3
    replace hrc3 := Keep.mk hrc3
    replace hfc3 := Keep.mk hfc3
    replace hfree := Keep.mk hfree
    replace hfth := Keep.mk hfth
    replace hffe := Keep.mk hffe
    replace hfR := Keep.mk hfR
    replace own3 := Keep.mk own3
    replace N1 := Keep.mk N1
    replace N2 := Keep.mk N2
    replace B2 := Keep.mk B2
    replace z1 := Keep.mk z1
    replace z2 := Keep.mk z2
    repeat (first
      | refine y_go rfl ?_
      | (refine y_nw rfl (by rfl) rfl (by exact nx rfl) (fun dd hS K hK => ?_); go_simp; refine hK _ _ _ ?_; clear hK K hS dd; simp only [recOf]; try walk_nrm)
      | (refine y_unwanted rfl (by rfl) ?_; try walk_nrm) | refine y_condT rfl ?_ | refine y_condF rfl ?_
      | refine y_block ?_ | refine y_label ?_ | refine y_ret ?_ | refine y_end ?_)
    refine y_drawnQ (fun _ w' => w'.cell? ⟨w.heap.size, 0, none⟩ = some (.pointer (some ⟨A.R, 0, none⟩)) ∧ w'.cell? ⟨tc, 0, none⟩ = some (.pointer (some ⟨tb, 0, none⟩)) ∧ w'.cell? ⟨A.R, 0, none⟩ = some (.slice bo A.p.nth cp)) (fun i => i == 10) (by kernel_rfl) rfl ?_
    simp only [List.size_toArray, List.length_cons, List.length_nil, Nat.reduceAdd, Nat.reduceSub, Nat.zero_add, Array.replicate_succ, Array.replicate_zero, List.push_toArray, List.append_toArray, List.nil_append, List.cons_append, List.append_nil]
    first | (apply anyX_tW (i := 0) rfl; (focus rfl); (focus (exact nx rfl)); (focus (rintro σ' w' ⟨s0, s1, s2⟩ d K hK; go_simp; exact hK)); (focus kernel_rfl); (focus (exact ⟨c0, ct, r0⟩))) | (refine anyX_tU (i := 0) rfl rfl (by kernel_rfl) (by exact ⟨c0, ct, r0⟩) ?_)
    try walk_nrm
    first | (apply anyX_tW (i := 1) rfl; (focus rfl); (focus (exact nx rfl)); (focus (rintro σ' w' ⟨s0, s1, s2⟩ d K hK; go_simp; exact hK)); (focus kernel_rfl); (focus (exact ⟨c0, ct, r0⟩))) | (refine anyX_tU (i := 1) rfl rfl (by kernel_rfl) (by exact ⟨c0, ct, r0⟩) ?_)
    try walk_nrm
    first | (apply anyX_tW (i := 2) rfl; (focus rfl); (focus (exact nx rfl)); (focus (rintro σ' w' ⟨s0, s1, s2⟩ d K hK; go_simp; exact hK)); (focus kernel_rfl); (focus (exact ⟨c0, ct, r0⟩))) | (refine anyX_tU (i := 2) rfl rfl (by kernel_rfl) (by exact ⟨c0, ct, r0⟩) ?_)
    try walk_nrm
    first | (apply anyX_tW (i := 3) rfl; (focus rfl); (focus (exact nx rfl)); (focus (rintro σ' w' ⟨s0, s1, s2⟩ d K hK; go_simp; exact hK)); (focus kernel_rfl); (focus (exact ⟨c0, ct, r0⟩))) | (refine anyX_tU (i := 3) rfl rfl (by kernel_rfl) (by exact ⟨c0, ct, r0⟩) ?_)
    try walk_nrm
    first | (apply anyX_tW (i := 4) rfl; (focus rfl); (focus (exact nx rfl)); (focus (rintro σ' w' ⟨s0, s1, s2⟩ d K hK; go_simp; exact hK)); (focus kernel_rfl); (focus (exact ⟨c0, ct, r0⟩))) | (refine anyX_tU (i := 4) rfl rfl (by kernel_rfl) (by exact ⟨c0, ct, r0⟩) ?_)
    try walk_nrm
    first | (apply anyX_tW (i := 5) rfl; (focus rfl); (focus (exact nx rfl)); (focus (rintro σ' w' ⟨s0, s1, s2⟩ d K hK; go_simp; exact hK)); (focus kernel_rfl); (focus (exact ⟨c0, ct, r0⟩))) | (refine anyX_tU (i := 5) rfl rfl (by kernel_rfl) (by exact ⟨c0, ct, r0⟩) ?_)
    try walk_nrm
    refine anyX_one (i := 6) (by kernel_rfl) ?_
    refine opX_nw rfl (by rfl) (by first | exact nx_of rfl | exact nx_nil rfl rfl | exact nx_int rfl rfl rfl) (fun dd hS K' hK' => ?_)
    go_simp
    refine hK' _ _ _ ?_
    clear hK' K' hS dd
    have N4 := newO w3 (.cells #[.pointer (some ⟨tb, 0, none⟩)] 33)
    have n4 := cells_new w3 [.pointer (some ⟨tb, 0, none⟩)] 33
    generalize w3.alloc (.cells #[.pointer (some ⟨tb, 0, none⟩)] 33) = w4 at N4 n4 ⊢
    have z4 := N4.size
    have B4 : Bigger w3 w4 := ⟨by omega, N4.old⟩
    have q0 := (cell?_of_block (B4.old _ (lt_of_cell c0))).trans c0
    have q1 := (cell?_of_block (B4.old _ (lt_of_cell ct))).trans ct
    have q2 := (cell?_of_block (B4.old _ (lt_of_cell r0))).trans r0
    refine ⟨fun _ => ⟨q0, q1, q2⟩, ?_⟩
    try walk_nrm
    have own4 := row_later own3.out fun k hk => B4.old k (row_ty own3.out hk).2.1
    obtain ⟨i0, hi, hz0, hz1, hz2⟩ := info_parts (P := Try.prog) (e := 33) (z := .pointer none) (size := 1) (bytes := 8) (by kernel_rfl)
    refine anyX_one (i := 7) (by kernel_rfl) (opX_append (size := 1) (bytes := 8) rfl (by rfl) rfl Try.underlying198 hi hz0 hz1 hz2 rfl (by decide) 0 rfl own4 rfl rfl n4 (fun x hx => by simp at hx; rcases hx with rfl; rfl) (by unfold maxLen; omega) (by omega) (Nat.zero_le _) hfth.out ?_)
    intro thv' w5 own5 g5 _ b5
    have sz5 := g5.size
    have ltth : ∀ b, A.thv.ownBlock = some b → b < w.heap.size := fun b h => (row_ty M.out.ths h).2.1
    have hz03 := B03.size
    have old5 : ∀ b, b < w3.heap.size → A.thv.ownBlock ≠ some b → w5.heap[b]? = w3.heap[b]? := fun b hb hl => (g5.block b (by omega) (fun h => hl (by rw [hthv.out]; exact h.symm))).trans (B4.old b hb)
    have tyth : ∀ (b : Nat) (o : Obj), w.heap[b]? = some o → (∀ x y, o ≠ .cells x 33 y) → A.thv.ownBlock ≠ some b := fun b o hb n1 h => by
      obtain ⟨_, _, cur, hcur⟩ := row_ty M.out.ths h
      exact ne_of_obj hb hcur (n1 _ _) rfl
    have q0 : w5.cell? ⟨w.heap.size, 0, none⟩ = some (.pointer (some ⟨A.R, 0, none⟩)) := (cell?_of_block (old5 w.heap.size (lt_of_get hrc3.out) fun h => by have := ltth _ h; omega)).trans c0
    have ltc3 := T.out.ltc
    have hz02 := B2.out.size
    have q1 : w5.cell? ⟨tc, 0, none⟩ = some (.pointer (some ⟨tb, 0, none⟩)) := (cell?_of_block (old5 tc (lt_of_get T.out.htc) fun h => by have := ltth _ h; omega)).trans ct
    have hR3 := M3.out.runs
    have hRlt := lt_of_get M.out.runs
    have hR5 : w5.heap[A.R]? = some (runObj A) := (old5 A.R (by omega) (tyth _ _ M.out.runs (by simp [runObj]))).trans hR3
    have q2 : w5.cell? ⟨A.R, 0, none⟩ = some (.slice bo A.p.nth cp) := by unfold World.cell?; rw [hR5, ← hthv.out]; rfl
    refine ⟨fun _ => ⟨q0, q1, q2⟩, ?_⟩
    walk_nrm
    refine anyX_one (i := 8) (by kernel_rfl) (opX_nw rfl (by rfl) (by exact nx rfl) (fun dd hS K' hK' => ?_))
    go_simp
    refine hK' _ _ _ ?_
    clear hK' K' hS dd
    refine ⟨fun _ => ⟨q0, q1, q2⟩, ?_⟩
    try walk_nrm
    refine anyX_one (i := 9) (by kernel_rfl) (opX_nw rfl (by rfl) (by exact nx rfl) (fun dd hS K' hK' => ?_))
    go_simp
    refine hK' _ _ _ ?_
    clear hK' K' hS dd
    refine ⟨fun _ => ⟨q0, q1, q2⟩, ?_⟩
    try walk_nrm
    obtain ⟨bo1, cp1, rfl⟩ := row_slice own5
    refine anyX_one (i := 10) (by kernel_rfl) (opX_storeC (vs := #[.slice bo1 (A.p.nth + 1) cp1]) rfl (by rfl) rfl rfl rfl rfl hR5 (by first | kernel_rfl | rfl) (Nat.le_of_ble_eq_true rfl) (by simp [Value.oneCell']) (Cfg.Free.cells hfR.out) (fun w6 S6 => ?_))
    refine ⟨fun h => absurd h (by simp), ?_⟩
    try walk_nrm
    refine anyX_end (by kernel_rfl) ?_
    have hrun6 : w6.heap[A.R]? = some (.cells #[.slice bo1 (A.p.nth + 1) cp1, .map (some A.mb), A.logv, A.wentv, A.readyv, A.fellv, .bool A.stops] 200) := S6.is
    have z6 := S6.size
    have old6 : ∀ b, b < w3.heap.size → b ≠ A.R → A.thv.ownBlock ≠ some b → w6.heap[b]? = w3.heap[b]? := fun b hb h1 h2 => (S6.other b h1).trans (old5 b hb h2)
    have ths6 : w6.ownsRow 0 33 1 (.slice bo1 (A.p.nth + 1) cp1) (A.p.nth + 1) (((List.range A.p.nth).map fun j => .pointer (some ⟨A.tb j, 0, none⟩)) ++ [.pointer (some ⟨tb, 0, none⟩)]) := row_later own5 fun k hk => S6.other k fun e => by
      obtain ⟨_, _, cur, hcur⟩ := row_ty own5 hk
      exact ne_of_obj hcur hR5 (by simp [runObj]) e
    have bth : ∀ b, (Value.slice bo1 (A.p.nth + 1) cp1).ownBlock = some b → A.thv.ownBlock = some b ∨ (w.heap.size ≤ b ∧ w3.heap.size ≤ b) := fun b hb => by
      rcases b5 with e | e
      · left; rw [hthv.out]; exact Eq.trans e.symm hb
      · rw [e] at hb; have := Option.some.inj hb; exact .inr (by omega)
    obtain ⟨bof, cpf, hfev⟩ := row_slice M3.out.fell
    have fe6 : w6.ownsRow 0 4 1 A.fellv A.p.nth (List.replicate A.p.nth (.bool false)) := row_later M3.out.fell fun k hk => by
      obtain ⟨_, _, cur, hcur⟩ := row_ty M.out.fell hk
      obtain ⟨_, h3, _⟩ := row_ty M3.out.fell hk
      exact old6 k h3 (ne_of_obj hcur M.out.runs (by simp [runObj])) (tyth _ _ hcur (by simp))
    have q0 : w6.cell? ⟨w.heap.size, 0, none⟩ = some (.pointer (some ⟨A.R, 0, none⟩)) := (cell?_of_block (S6.other _ (by simp only; omega))).trans q0
    have q5 : w6.cell? ⟨A.R, 5, none⟩ = some (.slice bof A.p.nth cpf) := by unfold World.cell?; rw [hrun6, ← hfev]; rfl
    rw [hfev] at hffe fe6
    clear q1 q2 g5 own5 own4 hR5
    replace hrun6 := Keep.mk hrun6
    replace old6 := Keep.mk old6
    replace ths6 := Keep.mk ths6
    replace bth := Keep.mk bth
    replace fe6 := Keep.mk fe6
    replace S6 := Keep.mk S6
    replace hfev := Keep.mk hfev
    replace N4 := Keep.mk N4
    replace B4 := Keep.mk B4
    replace old5 := Keep.mk old5
    replace tyth := Keep.mk tyth
    replace ltth := Keep.mk ltth
    replace z4 := Keep.mk z4
    replace z6 := Keep.mk z6
    replace sz5 := Keep.mk sz5
    replace hz03 := Keep.mk hz03
    replace hz02 := Keep.mk hz02
    replace ltc3 := Keep.mk ltc3
    replace hRlt := Keep.mk hRlt
    replace b5 := Keep.mk b5
    replace n4 := Keep.mk n4
    repeat (first
      | refine y_go rfl ?_
      | (refine y_nw rfl (by rfl) rfl (by exact nx rfl) (fun dd hS K hK => ?_); go_simp; refine hK _ _ _ ?_; clear hK K hS dd; simp only [recOf]; try walk_nrm)
      | (refine y_unwanted rfl (by rfl) ?_; try walk_nrm) | refine y_condT rfl ?_ | refine y_condF rfl ?_
      | refine y_block ?_ | refine y_label ?_ | refine y_ret ?_ | refine y_end ?_)
    refine y_drawnQ (fun _ w' => w'.cell? ⟨w.heap.size, 0, none⟩ = some (.pointer (some ⟨A.R, 0, none⟩)) ∧ w'.cell? ⟨A.R, 5, none⟩ = some (.slice bof A.p.nth cpf)) (fun i => i == 9) (by kernel_rfl) rfl ?_
    simp only [List.size_toArray, List.length_cons, List.length_nil, Nat.reduceAdd, Nat.reduceSub, Nat.zero_add, Array.replicate_succ, Array.replicate_zero, List.push_toArray, List.append_toArray, List.nil_append, List.cons_append, List.append_nil]
    first | (apply anyX_tW (i := 0) rfl; (focus rfl); (focus (exact nx rfl)); (focus (rintro σ' w' ⟨s0, s1⟩ d K hK; go_simp; exact hK)); (focus kernel_rfl); (focus (exact ⟨q0, q5⟩))) | (refine anyX_tU (i := 0) rfl rfl (by kernel_rfl) (by exact ⟨q0, q5⟩) ?_)
    try walk_nrm
    first | (apply anyX_tW (i := 1) rfl; (focus rfl); (focus (exact nx rfl)); (focus (rintro σ' w' ⟨s0, s1⟩ d K hK; go_simp; exact hK)); (focus kernel_rfl); (focus (exact ⟨q0, q5⟩))) | (refine anyX_tU (i := 1) rfl rfl (by kernel_rfl) (by exact ⟨q0, q5⟩) ?_)
    try walk_nrm
    first | (apply anyX_tW (i := 2) rfl; (focus rfl); (focus (exact nx rfl)); (focus (rintro σ' w' ⟨s0, s1⟩ d K hK; go_simp; exact hK)); (focus kernel_rfl); (focus (exact ⟨q0, q5⟩))) | (refine anyX_tU (i := 2) rfl rfl (by kernel_rfl) (by exact ⟨q0, q5⟩) ?_)
    try walk_nrm
    first | (apply anyX_tW (i := 3) rfl; (focus rfl); (focus (exact nx rfl)); (focus (rintro σ' w' ⟨s0, s1⟩ d K hK; go_simp; exact hK)); (focus kernel_rfl); (focus (exact ⟨q0, q5⟩))) | (refine anyX_tU (i := 3) rfl rfl (by kernel_rfl) (by exact ⟨q0, q5⟩) ?_)
    try walk_nrm
    first | (apply anyX_tW (i := 4) rfl; (focus rfl); (focus (exact nx rfl)); (focus (rintro σ' w' ⟨s0, s1⟩ d K hK; go_simp; exact hK)); (focus kernel_rfl); (focus (exact ⟨q0, q5⟩))) | (refine anyX_tU (i := 4) rfl rfl (by kernel_rfl) (by exact ⟨q0, q5⟩) ?_)
    try walk_nrm
    refine anyX_one (i := 5) (by kernel_rfl) ?_
    refine opX_nw rfl (by rfl) (by first | exact nx_of rfl | exact nx_nil rfl rfl | exact nx_int rfl rfl rfl) (fun dd hS K' hK' => ?_)
    go_simp
    refine hK' _ _ _ ?_
    clear hK' K' hS dd
    have N7 := newO w6 (.cells #[.bool false] 4)
    have n7 := cells_new w6 [.bool false] 4
    generalize w6.alloc (.cells #[.bool false] 4) = w7 at N7 n7 ⊢
    have z7 := N7.size
    have B7 : Bigger w6 w7 := ⟨by omega, N7.old⟩
    have q0 := (cell?_of_block (B7.old _ (lt_of_cell q0))).trans q0
    have q5 := (cell?_of_block (B7.old _ (lt_of_cell q5))).trans q5
    refine ⟨fun _ => ⟨q0, q5⟩, ?_⟩
    try walk_nrm
    have own7 := row_later fe6.out fun k hk => B7.old k (row_ty fe6.out hk).2.1
    obtain ⟨i1, hi1, hy0, hy1, hy2⟩ := info_parts (P := Try.prog) (e := 4) (z := .bool false) (size := 1) (bytes := 1) (by kernel_rfl)
    refine anyX_one (i := 6) (by kernel_rfl) (opX_append (size := 1) (bytes := 1) rfl (by rfl) rfl Try.underlying59 hi1 hy0 hy1 hy2 rfl (by decide) 0 rfl own7 rfl rfl n7 (fun x hx => by simp at hx; rcases hx with rfl; rfl) (by unfold maxLen; omega) (by omega) (Nat.zero_le _) hffe.out ?_)
    intro fellv' w8 own8 g8 _ b8
    have sz8 := g8.size
    have ltfe : ∀ b, A.fellv.ownBlock = some b → b < w.heap.size := fun b h => (row_ty M.out.fell h).2.1
    have old8 : ∀ b, b < w6.heap.size → A.fellv.ownBlock ≠ some b → w8.heap[b]? = w6.heap[b]? := fun b hb hl => (g8.block b (by omega) (fun h => hl (by rw [hfev.out]; exact h.symm))).trans (B7.old b hb)
    have tyfe : ∀ {b : Nat} {o : Obj}, w.heap[b]? = some o → (∀ x y, o ≠ .cells x 4 y) → A.fellv.ownBlock ≠ some b := fun {b o} hb n1 h => by
      obtain ⟨_, _, cur, hcur⟩ := row_ty M.out.fell h
      exact ne_of_obj hb hcur (n1 _ _) rfl
    have := z4.out; have := z6.out; have := sz5.out; have := hz03.out; have := hz02.out; have := ltc3.out; have := hRlt.out; have := z1.out; have := z2.out
    have q0 : w8.cell? ⟨w.heap.size, 0, none⟩ = some (.pointer (some ⟨A.R, 0, none⟩)) := (cell?_of_block (old8 w.heap.size (by omega) fun h => by have := ltfe _ h; omega)).trans (by have h := q0; rwa [cell?_of_block (B7.old _ (show w.heap.size < w6.heap.size by omega))] at h)
    have hR8 : w8.heap[A.R]? = some (.cells #[.slice bo1 (A.p.nth + 1) cp1, .map (some A.mb), A.logv, A.wentv, A.readyv, A.fellv, .bool A.stops] 200) := (old8 A.R (by omega) (tyfe M.out.runs (by simp [runObj]))).trans hrun6.out
    have q5 : w8.cell? ⟨A.R, 5, none⟩ = some (.slice bof A.p.nth cpf) := by unfold World.cell?; rw [hR8, ← hfev.out]; rfl
    refine ⟨fun _ => ⟨q0, q5⟩, ?_⟩
    walk_nrm
    refine anyX_one (i := 7) (by kernel_rfl) (opX_nw rfl (by rfl) (by exact nx rfl) (fun dd hS K' hK' => ?_))
    go_simp
    refine hK' _ _ _ ?_
    clear hK' K' hS dd
    refine ⟨fun _ => ⟨q0, q5⟩, ?_⟩
    try walk_nrm
    refine anyX_one (i := 8) (by kernel_rfl) (opX_nw rfl (by rfl) (by exact nx rfl) (fun dd hS K' hK' => ?_))
    go_simp
    refine hK' _ _ _ ?_
    clear hK' K' hS dd
    refine ⟨fun _ => ⟨q0, q5⟩, ?_⟩
    try walk_nrm
    obtain ⟨bo2, cp2, rfl⟩ := row_slice own8
    refine anyX_one (i := 9) (by kernel_rfl) (opX_storeC (vs := #[.slice bo2 (A.p.nth + 1) cp2]) rfl (by rfl) rfl rfl rfl rfl hR8 (by first | kernel_rfl | rfl) (Nat.le_of_ble_eq_true rfl) (by simp [Value.oneCell']) (Cfg.Free.cells hfR.out) (fun w9 S9 => ?_))
    refine ⟨fun h => absurd h (by simp), ?_⟩
    try walk_nrm
    refine anyX_end (by kernel_rfl) ?_
    have z9 := S9.size
    have old9 : ∀ b, b < w6.heap.size → b ≠ A.R → A.fellv.ownBlock ≠ some b → w9.heap[b]? = w6.heap[b]? := fun b hb h1 h2 => (S9.other b h1).trans (old8 b hb h2)
    obtain ⟨N, hN⟩ : ∃ N : Fresh, N = ⟨w.heap.size, w.heap.size + 1, tb, wk, sd, tc⟩ := ⟨_, rfl⟩
    have keep9 : ∀ {b : Nat} {o : Obj}, w2.heap.size ≤ b ∨ w.heap.size ≤ b → w3.heap[b]? = some o → w9.heap[b]? = some o := fun {b o} hb h => by
      have h3 := lt_of_get h
      have e1 : b ≠ A.R := by omega
      exact (old9 b (by omega) e1 fun h' => by have := ltfe _ h'; omega).trans ((old6.out b h3 e1 fun h' => by have := ltth.out _ h'; omega).trans h)
    have ths9 : w9.ownsRow 0 33 1 (.slice bo1 (A.p.nth + 1) cp1) (A.p.nth + 1) (((List.range A.p.nth).map fun j => .pointer (some ⟨A.tb j, 0, none⟩)) ++ [.pointer (some ⟨tb, 0, none⟩)]) := row_later ths6.out fun k hk => by
      obtain ⟨_, h3, cur, hcur⟩ := row_ty ths6.out hk
      refine old9 k h3 (ne_of_obj hcur hrun6.out (by simp)) fun h' => ?_
      have h4 := ltfe _ h'
      obtain ⟨_, _, cur2, hcur2⟩ := row_ty fe6.out (by rw [← hfev.out]; exact h')
      exact ne_of_obj hcur hcur2 (by simp) rfl
    have fel9 : w9.ownsRow 0 4 1 (.slice bo2 (A.p.nth + 1) cp2) (A.p.nth + 1) (List.replicate A.p.nth (.bool false) ++ [.bool false]) := row_later own8 fun k hk => S9.other k fun e => by
      obtain ⟨_, _, cur, hcur⟩ := row_ty own8 hk
      exact ne_of_obj hcur hR8 (by simp) e
    have bfe : ∀ b, (Value.slice bo2 (A.p.nth + 1) cp2).ownBlock = some b → A.fellv.ownBlock = some b ∨ w.heap.size ≤ b := fun b hb => by
      rcases b8 with e | e
      · left; rw [hfev.out]; exact Eq.trans e.symm hb
      · rw [e] at hb; have := Option.some.inj hb; exact .inr (by omega)
    have ltwk := T.out.lwk
    have ltsd := T.out.lsd
    have lttb := T.out.ltb
    have M9 : GMem (A.begun N (.func (.func f) first cap) (.slice bo1 (A.p.nth + 1) cp1) (.slice bo2 (A.p.nth + 1) cp2) w.heap.size w9.heap.size) (some A.p.nth) w9 := by
      subst hN
      refine GMem.begun M.out h64 (fun b hb h1 h2 h3 => (old9 b (by omega) h1 h3).trans ((old6.out b (by omega) h1 h2).trans (B03.out.old b hb))) S9.is (keep9 (.inr (Nat.le_refl _)) hrc3.out) (keep9 (.inr (by simp)) hfc3.out) (keep9 (.inl lttb) T.out.htb) (keep9 (.inl ltwk) T.out.hwk) (keep9 (.inl ltsd) T.out.hsd) (keep9 (.inl ltc3.out) T.out.htc) T.out.ne (Nat.le_refl _) (by simp) (by simp only; omega) (by simp only; omega) (by simp only; omega) (by simp only; omega) ths9 fel9 (fun b hb => ?_) bfe
      rcases bth.out b hb with h | ⟨h1, h2⟩
      · exact .inl h
      · refine .inr ⟨h1, fun e => ?_⟩
        have := lt_of_get T.out.htc
        simp only at e
        omega
    have ct9 : w9.cell? ⟨tc, 0, none⟩ = some (.pointer (some ⟨tb, 0, none⟩)) := by unfold World.cell?; rw [keep9 (.inl ltc3.out) T.out.htc]; rfl
    have c2 : w9.cell? ⟨tb, 2, none⟩ = some (.chan (some wk)) := by unfold World.cell?; rw [keep9 (.inl lttb) T.out.htb]; rfl
    have hwk9 := keep9 (.inl ltwk) T.out.hwk
    have hrcv : w9.cell? ⟨w.heap.size, 0, none⟩ = some (.pointer (some ⟨A.R, 0, none⟩)) := by unfold World.cell?; rw [keep9 (.inr (Nat.le_refl _)) hrc3.out]; rfl
    have szw9 : w.heap.size ≤ w9.heap.size := by omega
    have old09 : ∀ b, b < w.heap.size → ¬ A.own b → w9.heap[b]? = w.heap[b]? := fun b hb ho => by
      obtain ⟨oR, _, _, o1, _, _, _, o5, _⟩ := M.out.owns
      have e1 : b ≠ A.R := fun e => ho (e ▸ oR)
      exact (old9 b (by omega) e1 fun h => ho (o5 b h)).trans ((old6.out b (by omega) e1 fun h => ho (o1 b h)).trans (B03.out.old b hb))
    have oldkp : ∀ b o, kp b = some o → w9.heap[b]? = some o := fun b o hb => by
      obtain ⟨h1, P, _⟩ := H.out b o hb
      have hb' := lt_of_get h1
      have e1 : b ≠ A.R := ne_of_obj h1 M.out.runs fun e => (P.cells _ _ _ e).1 rfl
      have e2 : A.thv.ownBlock ≠ some b := fun h => by
        obtain ⟨_, _, cur, hcur⟩ := row_ty M.out.ths h
        exact ne_of_obj h1 hcur (fun e => (P.cells _ _ _ e).2.2.2.2.1 rfl) rfl
      have e3 : A.fellv.ownBlock ≠ some b := fun h => by
        obtain ⟨_, _, cur, hcur⟩ := row_ty M.out.fell h
        exact ne_of_obj h1 hcur (fun e => (P.cells _ _ _ e).2.2.2.2.2.1 rfl) rfl
      exact (old9 b (by omega) e1 e3).trans ((old6.out b (by omega) e1 e2).trans ((B03.out.old b hb').trans h1))
    clear b8 g8 own8 hR8 old8 q0 q5 S9 ths9 fel9 bfe keep9 bth b5 fe6 ths6 hrun6 old6 own7 B7 N7 n7 i1 hi1 hy0 hy1 hy2 i0 hi hz0 hz1 hz2
    replace M9 := Keep.mk M9
    replace old09 := Keep.mk old09
    replace oldkp := Keep.mk oldkp
    replace hwk9 := Keep.mk hwk9
    replace szw9 := Keep.mk szw9
    replace hN := Keep.mk hN
    repeat (first
      | refine y_go rfl ?_
      | (refine y_region ?_; simp only [rg, Nat.reduceAdd, List.range, List.range.loop])
      | (refine y_nw rfl (by rfl) rfl (by exact nx rfl) (fun dd hS K hK => ?_); go_simp; refine hK _ _ _ ?_; clear hK K hS dd; simp only [recOf]; try walk_nrm)
      | (refine y_unwanted rfl (by rfl) ?_; try walk_nrm) | refine y_condT rfl ?_ | refine y_condF rfl ?_
      | refine y_block ?_ | refine y_label ?_ | refine y_ret ?_ | refine y_end ?_)
    have hun : A.p.st A.p.nth = .unborn := by
      by_cases h : A.p.st A.p.nth = .unborn
      · exact h
      · exact absurd ((M.out.born A.p.nth).2 (.inl h)) (Nat.lt_irrefl _)
    have hgo := fun g hg => begun_goes (Fin := Fin) (C := C) (m := m) (A := A) (kap := kap) (s := s) (gs := gs) (gm := gm) (g := g) (os := os) (out := out) (w9 := w9) (kp := kp) (N := N) B.out.n0 hun B.out.on M9.out hg (C.stable B.out.inv szw9.out fun b hb ho => ⟨old09.out b hb ho, fun h => h.elim ho fun h => by omega⟩) B.out.pr fun b o hb => ⟨oldkp.out b o hb, (H.out b o hb).2⟩
    have hL : (A.begun N (.func (.func f) first cap) (.slice bo1 (A.p.nth + 1) cp1) (.slice bo2 (A.p.nth + 1) cp2) w.heap.size w9.heap.size).lay A.p.nth = ⟨A.n0, A.R, A.mb, tb, wk, sd, tc, w.heap.size, tb, A.cells⟩ := by
      rw [hN.out]; simp [GA.lay, GA.begun]
    refine x_go (c := wk) (z := unitV) (still := [(⟨tc, 0, none⟩, .pointer (some ⟨tb, 0, none⟩)), (⟨tb, 2, none⟩, .chan (some wk))]) (Q := Born Fin C m A.p.nth (kap A.p.nth) ⟨A.n0, A.R, A.mb, tb, wk, sd, tc, w.heap.size, tb, A.cells⟩ (w.heap.size + 1) (.func (.func f) first cap)) rfl rfl (by rfl) rfl rfl rfl (life_way (L := ⟨A.n0, A.R, A.mb, tb, wk, sd, tc, w.heap.size, tb, A.cells⟩) hf.out hname.out hb.out hbody.out) ?_ ⟨0, hwk9.out⟩ ?_ ?_
    · intro p hp
      simp at hp
      rcases hp with rfl | rfl
      · exact ct9
      · exact c2
    · intro i s' hs' e
      rcases seat_cases hs' with ⟨_, i', h, _⟩ | ⟨i', _, hi', _, _, rfl⟩
      · cases h
      · obtain ⟨k1, h1⟩ := M.out.wkc i' hi'
        have := lt_of_get h1
        have := ltwk
        have e' : A.wk i' = wk := e
        have := hz02.out
        omega
    · intro g hg
      have hgo' := hgo g (by rw [hL, hN.out]; exact hg)
      rw [hN.out] at hgo'
      clear hgo hL
      replace hgo' := Keep.mk hgo'
      replace hg := Keep.mk hg
      walk_nrm
      show (tokenJ Try.prog Fin).Y _ _ w9
      repeat (first
        | refine y_go rfl ?_
        | (refine y_region ?_; simp only [rg, Nat.reduceAdd, List.range, List.range.loop])
        | (refine y_nw rfl (by rfl) rfl (by exact nx rfl) (fun dd hS K hK => ?_); go_simp; refine hK _ _ _ ?_; clear hK K hS dd; simp only [recOf]; try walk_nrm)
        | (refine y_unwanted rfl (by rfl) ?_; try walk_nrm) | refine y_condT rfl ?_ | refine y_condF rfl ?_
        | refine y_block ?_ | refine y_label ?_ | refine y_ret ?_ | refine y_end ?_)
      refine y_callR rfl (by rfl) rfl rfl Try.func173 (by kernel_rfl) (by kernel_rfl) (hgo'.out) (by simp only [List.map_toArray, List.map_cons, List.map_nil] <;> rfl) ?_
      rintro _ σ'' w10 ⟨rfl, hR, ct10⟩
      simp only at ct10
      replace hR := Keep.mk hR
      walk_nrm
      repeat (first
        | refine y_go rfl ?_
        | (refine y_region ?_; simp only [rg, Nat.reduceAdd, List.range, List.range.loop])
        | (refine y_nw rfl (by rfl) rfl (by exact nx rfl) (fun dd hS K hK => ?_); go_simp; refine hK _ _ _ ?_; clear hK K hS dd; simp only [recOf]; try walk_nrm)
        | (refine y_unwanted rfl (by rfl) ?_; try walk_nrm) | refine y_condT rfl ?_ | refine y_condF rfl ?_
        | refine y_block ?_ | refine y_label ?_ | refine y_ret ?_ | refine y_end ?_)
      refine y_leave rfl rfl Try.func171 (resultsC_tmp rfl _) ?_
      exact HR.out _ _ _ hR.out
end
end Go.Proofs.Ytcibnfjpagmdaaa
