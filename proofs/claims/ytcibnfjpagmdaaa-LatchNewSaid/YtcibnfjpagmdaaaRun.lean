/- A run by picks: gate.Run. -/
import Derived.Test.YtcibnfjpagmdaaaReport
set_option linter.unusedSimpArgs false
set_option linter.unusedVariables false
set_option maxRecDepth 100000
set_option maxHeartbeats 8000000
namespace Go.Proofs.Ytcibnfjpagmdaaa
open Go.TX Go.Conc Go.RowKit Go.MapKept

section
variable {P : Program} {J : Judge P} {σ : Cfg} {w : World} {b : Frame} {a : Act} {k : List Item} {cs : List Frame} {ops : Array Oper} {i : Nat} {rest : List Nat} {o : Oper}
theorem y_makeMap {t : TypeId} (ho : ops[i]? = some o) (hw : Region.wanted o (yielded ops a.tmps) = true) (hk : (b.kind == CallKind.early) = false) (hop : o.op = .makeMap t none)
    (h : J.Y σ (G (b.at (a.put o.dst (.map (some w.heap.size))) (.inRegion ops rest :: k)) cs) (w.alloc (.map #[] 0))) : J.Y σ (G (b.at a (.inRegion ops (i :: rest) :: k)) cs) w := by
  refine y_nw ho hw hk ?_ fun d _ K hK => ?_
  · unfold execOp
    simp only [hop]
    exact Nw_bind (nw_makeMap _ _) fun _ => trivial
  · have hr : (Instr.makeMap t none).run P (w.at d) = .ok (.map (some w.heap.size)) ((w.at d).alloc (.map #[] 0)) := rfl
    unfold execOp
    simp only [hop, Option.map_none, Sem.run_bind, hr, Result.andThen_ok, Sem.run_pure]
    exact hK (.act (a.put o.dst (.map (some w.heap.size)))) (w.alloc (.map #[] 0)) d h
theorem y_max {x y : Operand} {ts : Array TypeId} {kd : IntKind} {m n : Int} (ho : ops[i]? = some o) (hw : Region.wanted o (yielded ops a.tmps) = true) (hk : (b.kind == CallKind.early) = false) (hop : o.op = .call { callee := .builtin .max, args := #[x, y], argTypes := ts }) (hx : a.eval x = .int kd m) (hy : a.eval y = .int kd n)
    (h : J.Y σ (G (b.at (a.put o.dst (.int kd (if n > m then n else m))) (.inRegion ops rest :: k)) cs) w) : J.Y σ (G (b.at a (.inRegion ops (i :: rest) :: k)) cs) w := by
  have e : ∀ ty, Builtin.max_ ts ty #[.int kd m, .int kd n] = pure (.int kd (if n > m then n else m)) := fun _ => rfl
  refine y_nw ho hw hk ?_ fun d _ K hK => ?_
  · unfold execOp
    simp only [hop, resolve, invoke, builtin, List.map_toArray, List.map_cons, List.map_nil, hx, hy, e]
    trivial
  · unfold execOp
    simp only [hop, resolve, invoke, builtin, Sem.run_bind, Sem.run_pure, Result.andThen_ok, List.map_toArray, List.map_cons, List.map_nil, hx, hy, e]
    exact hK (.act (a.put o.dst (.int kd (if n > m then n else m)))) w d h
theorem y_min {x y : Operand} {ts : Array TypeId} {kd : IntKind} {m n : Int} (ho : ops[i]? = some o) (hw : Region.wanted o (yielded ops a.tmps) = true) (hk : (b.kind == CallKind.early) = false) (hop : o.op = .call { callee := .builtin .min, args := #[x, y], argTypes := ts }) (hx : a.eval x = .int kd m) (hy : a.eval y = .int kd n)
    (h : J.Y σ (G (b.at (a.put o.dst (.int kd (if n < m then n else m))) (.inRegion ops rest :: k)) cs) w) : J.Y σ (G (b.at a (.inRegion ops (i :: rest) :: k)) cs) w := by
  have e : ∀ ty, Builtin.min_ ts ty #[.int kd m, .int kd n] = pure (.int kd (if n < m then n else m)) := fun _ => rfl
  refine y_nw ho hw hk ?_ fun d _ K hK => ?_
  · unfold execOp
    simp only [hop, resolve, invoke, builtin, List.map_toArray, List.map_cons, List.map_nil, hx, hy, e]
    trivial
  · unfold execOp
    simp only [hop, resolve, invoke, builtin, Sem.run_bind, Sem.run_pure, Result.andThen_ok, List.map_toArray, List.map_cons, List.map_nil, hx, hy, e]
    exact hK (.act (a.put o.dst (.int kd (if n < m then n else m)))) w d h
end

/-- A run ahead of its first thread. -/
def GA.start (n0 R mb : Nat) (cells own : Nat → Prop) (cv0 : Nat → Int) : GA :=
  { p := ⟨0, fun _ => .unborn, [], [], [], [], cv0⟩, n0 := n0, R := R, mb := mb, tb := fun _ => 0, wk := fun _ => 0, sd := fun _ => 0, tc := fun _ => 0, rc := fun _ => 0, fc := fun _ => 0, fv := fun _ => undef, ab := fun _ => 0, pv := fun _ => none, pa := fun _ => .zero,
    thv := .slice none 0 0, logv := .slice none 0 0, wentv := .slice none 0 0, readyv := .slice none 0 0, fellv := .slice none 0 0, stops := false, cells := cells, own := own }
theorem GMem.start {n0 R mb : Nat} {cells own : Nat → Prop} {cv0 : Nat → Int} {w : World} (hR : w.heap[R]? = some (.cells #[.slice none 0 0, .map (some mb), .slice none 0 0, .slice none 0 0, .slice none 0 0, .slice none 0 0, .bool false] 200)) (hmb : w.heap[mb]? = some (.map #[] 0))
    (hc : ∀ c, cells c → CellIs w c (cv0 c)) (oR : own R) (omb : own mb) (oc : ∀ c, cells c → own c) : GMem (GA.start n0 R mb cells own cv0) none w := by
  have nj : ∀ {i : Nat}, i < (GA.start n0 R mb cells own cv0).p.nth → False := fun h => Nat.not_lt_zero _ h
  have nb : ∀ {b : Nat}, (Value.slice none 0 0).ownBlock = some b → False := fun h => by cases h
  exact { runs := hR, mapo := hmb, thr := fun j hj => (nj hj).elim, wkc := fun j hj => (nj hj).elim, sdc := fun j hj => (nj hj).elim, tcc := fun j hj => (nj hj).elim, rcc := fun j hj => (nj hj).elim, fcc := fun j hj => (nj hj).elim, ths := World.ownsRow_nil _ _ _ _, logs := World.ownsRow_nil _ _ _ _, went := World.ownsRow_nil _ _ _ _, ready := World.ownsRow_nil _ _ _ _, fell := World.ownsRow_nil _ _ _ _, cell := hc, cnc := fun c h => absurd h (by simp [GA.start]), cnd := List.nodup_nil, stand := fun j a hj => (nj hj).elim, born := fun j => ⟨fun h => (nj h).elim, fun h => h.elim (fun h => absurd rfl h) fun h => by cases h⟩, small := ⟨by simp [GA.start], by simp [GA.start], by simp [GA.start], by simp [GA.start]⟩, apart := ⟨fun b hb => (nb hb).elim, fun j hj => (nj hj).elim, fun j a hj => (nj hj).elim⟩, chans := ⟨fun i j hi => (nj hi).elim, fun i j hi => (nj hi).elim⟩, owns := ⟨oR, omb, oc, fun b hb => (nb hb).elim, fun b hb => (nb hb).elim, fun b hb => (nb hb).elim, fun b hb => (nb hb).elim, fun b hb => (nb hb).elim, fun j hj => (nj hj).elim⟩ }

/-- What a run has come to, for whoever called it. -/
structure RunR (C : Client) (picks : List Int) (n : Nat) (cv0 : Nat → Int) (cells : Nat → Prop) (most : Nat) (w : World) (v : Value) (w' : World) (A : GA) (f : Nat → Phase) (kap : Nat → C.K) (s : C.S) (lv : Value) : Prop where
  val : v = reportV A.p.ends A.p A.logv A.wentv A.readyv lv
  reach : Go.TX.Reach picks (Begun n cv0) A.p
  stops : A.p.stopsAt most
  cells : A.cells = cells
  mem : GMem (A.off.stf f) none w'
  inv : C.I kap s A.p A.own w'
  size : w.heap.size ≤ w'.heap.size
  row : w'.ownsRow w.heap.size 194 8 lv (lefts A.p).length (flatLog (lefts A.p))

section
variable {Fin : Machine → Trace → Prop} {C : Client} {most : Nat} {κ0 : Nat → C.K} {s0 : C.S} {w : World} {picks : List Int} {pbo bbo : Option Addr} {bs : List Bod} {cv0 : Nat → Int} {pcp bcp : Nat} {σ : Cfg} {cells : Nat → Prop}

theorem run_calls (P : Plan Fin C picks pbo bs bbo κ0) (hm : most ≤ 65536) (hh : σ.h = 0) (hd : σ.dl = 0) (hs : σ.seat = fun _ => none) (hn : 0 < σ.n) (hc : ∀ c, cells c → CellIs w c (cv0 c)) (hI : C.Inv κ0 s0 (fun _ => .unborn) [] cv0 cells w) :
    CallsX (tokenJ Try.prog Fin) 30 #[.slice pbo picks.length pcp, .int .i64 most, .slice bbo bs.length bcp] σ w fun v σ' w' => σ' = { σ with n := σ.n + bs.length } ∧ ∃ A f kap s lv, RunR C picks bs.length cv0 cells most w v w' A f kap s lv := by
  refine callsX_body Try.func30 rfl fun c cs H HN => ?_
  simp only [Try.f30, Try.ntmps30, List.size_toArray, List.length_cons, List.length_nil, Nat.reduceAdd, Nat.reduceSub, Nat.zero_add, Array.replicate_succ, Array.replicate_zero, List.push_toArray, List.append_toArray, List.nil_append, List.cons_append, List.append_nil]
  have hn64 := P.n64
  have e1 : ¬ (64 < (bs.length : Int)) := by omega
  replace P := Keep.mk P
  replace hc := Keep.mk hc
  replace hI := Keep.mk hI
  replace H := Keep.mk H
  replace hm := Keep.mk hm
  replace hh := Keep.mk hh
  replace hd := Keep.mk hd
  replace hs := Keep.mk hs
  replace hn := Keep.mk hn
  repeat (first
    | refine y_go rfl ?_
    | (refine y_region ?_; simp only [rg, Nat.reduceAdd, List.range, List.range.loop])
    | (refine y_nw rfl (by rfl) rfl (by exact nx rfl) (fun dd hS K hK => ?_); go_simp; refine hK _ _ _ ?_; clear hK K hS dd; simp only [recOf]; try walk_nrm)
    | (refine y_unwanted rfl (by rfl) ?_; try walk_nrm) | refine y_condT rfl ?_ | refine y_condF rfl ?_
    | refine y_block ?_ | refine y_label ?_ | refine y_ret ?_ | refine y_end ?_)
  refine y_makeMap rfl (by rfl) rfl rfl ?_
  walk_nrm
  repeat (first
    | refine y_go rfl ?_
    | (refine y_region ?_; simp only [rg, Nat.reduceAdd, List.range, List.range.loop])
    | (refine y_nw rfl (by rfl) rfl (by exact nx rfl) (fun dd hS K hK => ?_); go_simp; refine hK _ _ _ ?_; clear hK K hS dd; simp only [recOf]; try walk_nrm)
    | (refine y_unwanted rfl (by rfl) ?_; try walk_nrm) | refine y_condT rfl ?_ | refine y_condF rfl ?_
    | refine y_block ?_ | refine y_label ?_ | refine y_ret ?_ | refine y_end ?_)
  have N1 := newO w (.cells #[.slice pbo picks.length pcp] 24)
  generalize w.alloc (.cells #[.slice pbo picks.length pcp] 24) = w1 at N1 ⊢
  have N2 := newO w1 (.cells #[.int .i8 0, .int .i64 0, .slice none 0 0, .slice none 0 0, .slice none 0 0, .slice none 0 0, .slice none 0 0] 43)
  generalize w1.alloc (.cells #[.int .i8 0, .int .i64 0, .slice none 0 0, .slice none 0 0, .slice none 0 0, .slice none 0 0, .slice none 0 0] 43) = w2 at N2 ⊢
  have N3 := newO w2 (.map #[] 0)
  generalize w2.alloc (.map #[] 0) = w3 at N3 ⊢
  have N4 := newO w3 (.cells #[.slice none 0 0, .map (some (w.heap.size + 1 + 1)), .slice none 0 0, .slice none 0 0, .slice none 0 0, .slice none 0 0, .bool false] 200)
  generalize w3.alloc (.cells #[.slice none 0 0, .map (some (w.heap.size + 1 + 1)), .slice none 0 0, .slice none 0 0, .slice none 0 0, .slice none 0 0, .bool false] 200) = w4 at N4 ⊢
  have N5 := newO w4 (.cells #[.pointer none] 196)
  generalize w4.alloc (.cells #[.pointer none] 196) = w5 at N5 ⊢
  have z1 := N1.size
  have z2 := N2.size
  have z3 := N3.size
  have z4 := N4.size
  have z5 := N5.size
  have i1 : w5.heap[w.heap.size]? = some (.cells #[.slice pbo picks.length pcp] 24) := (N5.old _ (by omega)).trans ((N4.old _ (by omega)).trans ((N3.old _ (by omega)).trans ((N2.old _ (by omega)).trans N1.is)))
  have i2 : w5.heap[w.heap.size + 1]? = some (.cells #[.int .i8 0, .int .i64 0, .slice none 0 0, .slice none 0 0, .slice none 0 0, .slice none 0 0, .slice none 0 0] 43) := by rw [← z1]; exact (N5.old _ (by omega)).trans ((N4.old _ (by omega)).trans ((N3.old _ (by omega)).trans N2.is))
  have i3 : w5.heap[w.heap.size + 1 + 1]? = some (.map #[] 0) := by rw [← z1, ← z2]; exact (N5.old _ (by omega)).trans ((N4.old _ (by omega)).trans N3.is)
  have i4 : w5.heap[w.heap.size + 1 + 1 + 1]? = some (.cells #[.slice none 0 0, .map (some (w.heap.size + 1 + 1)), .slice none 0 0, .slice none 0 0, .slice none 0 0, .slice none 0 0, .bool false] 200) := by
    have h := (N5.old w3.heap.size (by omega)).trans N4.is
    have e : w3.heap.size = w.heap.size + 1 + 1 + 1 := by omega
    rw [e] at h; exact h
  have i5 : w5.heap[w.heap.size + 1 + 1 + 1 + 1]? = some (.cells #[.pointer none] 196) := by
    have h := N5.is
    have e : w4.heap.size = w.heap.size + 1 + 1 + 1 + 1 := by omega
    rw [e] at h; exact h
  have B5 : Bigger w w5 := ⟨by omega, fun b hb => (N5.old _ (by omega)).trans ((N4.old _ (by omega)).trans ((N3.old _ (by omega)).trans ((N2.old _ (by omega)).trans (N1.old b hb))))⟩
  have l5 : w5.heap.size = w.heap.size + 1 + 1 + 1 + 1 + 1 := by omega
  clear N1 N2 N3 N4 N5 z1 z2 z3 z4 z5
  obtain ⟨b7, h7⟩ : ∃ b, b = w.heap.size + 1 + 1 + 1 + 1 := ⟨_, rfl⟩
  obtain ⟨R, hR⟩ : ∃ b, b = w.heap.size + 1 + 1 + 1 := ⟨_, rfl⟩
  obtain ⟨mb, hmb⟩ : ∃ b, b = w.heap.size + 1 + 1 := ⟨_, rfl⟩
  obtain ⟨b6, h6⟩ : ∃ b, b = w.heap.size + 1 := ⟨_, rfl⟩
  obtain ⟨b3, h3⟩ : ∃ b, b = w.heap.size := ⟨_, rfl⟩
  rw [← h7, ← hR, ← hmb, ← h6, ← h3]
  rw [← h7] at i5
  rw [← hR, ← hmb] at i4
  rw [← hmb] at i3
  rw [← h6] at i2
  rw [← h3] at i1
  replace h7 := Keep.mk h7
  replace hR := Keep.mk hR
  replace hmb := Keep.mk hmb
  replace h6 := Keep.mk h6
  replace h3 := Keep.mk h3
  replace i1 := Keep.mk i1
  replace i2 := Keep.mk i2
  replace i3 := Keep.mk i3
  replace i4 := Keep.mk i4
  replace i5 := Keep.mk i5
  replace B5 := Keep.mk B5
  replace l5 := Keep.mk l5
  refine y_storeC (vs := #[.pointer (some ⟨R, 0, none⟩)]) rfl (by rfl) rfl rfl rfl rfl rfl i5.out (by first | kernel_rfl | rfl) (Nat.le_of_ble_eq_true rfl) (by simp [Value.oneCell']) (Cfg.Free.cells (free_noseat hs.out)) (fun w6 S6 => ?_)
  try walk_nrm
  have i7 : w6.heap[b7]? = some (.cells #[.pointer (some ⟨R, 0, none⟩)] 196) := S6.is
  have c7 : w6.cell? ⟨b7, 0, none⟩ = some (.pointer (some ⟨R, 0, none⟩)) := by unfold World.cell?; rw [i7]; rfl
  replace S6 := Keep.mk S6
  replace i7 := Keep.mk i7
  repeat (first
    | refine y_go rfl ?_
    | (refine y_region ?_; simp only [rg, Nat.reduceAdd, List.range, List.range.loop])
    | (refine y_nw rfl (by rfl) rfl (by exact nx rfl) (fun dd hS K hK => ?_); go_simp; refine hK _ _ _ ?_; clear hK K hS dd; simp only [recOf]; try walk_nrm)
    | (refine y_unwanted rfl (by rfl) ?_; try walk_nrm) | refine y_condT rfl ?_ | refine y_condF rfl ?_
    | refine y_block ?_ | refine y_label ?_ | refine y_ret ?_ | refine y_end ?_)
  refine y_max rfl (by rfl) rfl rfl rfl rfl ?_
  rw [if_neg (show ¬ ((0 : Int) > most) by omega)]
  walk_nrm
  refine y_min rfl (by rfl) rfl rfl rfl rfl ?_
  rw [if_neg (show ¬ ((65536 : Int) < most) by have := hm.out; omega)]
  walk_nrm
  repeat (first
    | refine y_go rfl ?_
    | (refine y_region ?_; simp only [rg, Nat.reduceAdd, List.range, List.range.loop])
    | (refine y_nw rfl (by rfl) rfl (by exact nx rfl) (fun dd hS K hK => ?_); go_simp; refine hK _ _ _ ?_; clear hK K hS dd; simp only [recOf]; try walk_nrm)
    | (refine y_unwanted rfl (by rfl) ?_; try walk_nrm) | refine y_condT rfl ?_ | refine y_condF rfl ?_
    | refine y_block ?_ | refine y_label ?_ | refine y_ret ?_ | refine y_end ?_)
  have hl6 := S6.out.size
  have hl5 := l5.out
  have n7 := h7.out
  have nR := hR.out
  have nmb := hmb.out
  have n6 := h6.out
  have n3 := h3.out
  have B6 : Bigger w w6 := ⟨by omega, fun b hb => (S6.out.other b (by omega)).trans (B5.out.old b hb)⟩
  have M6 : GMem (GA.start σ.n R mb cells (fun b => cells b ∨ (w.heap.size ≤ b ∧ b < w6.heap.size)) cv0) none w6 :=
    GMem.start ((S6.out.other R (by omega)).trans i4.out) ((S6.out.other mb (by omega)).trans i3.out) (fun c h => (hc.out c h).later (B6.old _ (hc.out c h).lt)) (.inr ⟨by omega, by omega⟩) (.inr ⟨by omega, by omega⟩) fun c h => .inl h
  have hB : Board Fin C most (GA.start σ.n R mb cells (fun b => cells b ∨ (w.heap.size ≤ b ∧ b < w6.heap.size)) cv0) κ0 s0 (fun _ => default) w6 :=
    ⟨M6, hn.out, rfl, C.stable hI.out B6.size fun b hb ho => ⟨B6.old b hb, fun h => h.elim ho fun h => by omega⟩, fun j a hj => (Nat.not_lt_zero _ hj).elim⟩
  obtain ⟨kp, hkp⟩ : ∃ kp : Nat → Option Obj, kp = fun b => if b = b3 then some (.cells #[.slice pbo picks.length pcp] 24) else if b = b7 then some (.cells #[.pointer (some ⟨R, 0, none⟩)] 196) else if b = b6 then some (.cells #[.int .i8 0, .int .i64 0, .slice none 0 0, .slice none 0 0, .slice none 0 0, .slice none 0 0, .slice none 0 0] 43) else none := ⟨_, rfl⟩
  have k3 : kp b3 = some (.cells #[.slice pbo picks.length pcp] 24) := by rw [hkp]; simp
  have k7 : kp b7 = some (.cells #[.pointer (some ⟨R, 0, none⟩)] 196) := by
    rw [hkp]
    have : ¬ b7 = b3 := by omega
    simp [this]
  have k6 : kp b6 = some (.cells #[.int .i8 0, .int .i64 0, .slice none 0 0, .slice none 0 0, .slice none 0 0, .slice none 0 0, .slice none 0 0] 43) := by
    rw [hkp]
    have h1 : ¬ b6 = b3 := by omega
    have h2 : ¬ b6 = b7 := by omega
    simp [h1, h2]
  have hK : Held kp (GA.start σ.n R mb cells (fun b => cells b ∨ (w.heap.size ≤ b ∧ b < w6.heap.size)) cv0) w6 := fun b o hb => by
    rw [hkp] at hb
    simp only at hb
    by_cases e3 : b = b3
    · subst e3
      simp only [if_true, Option.some.injEq] at hb
      subst hb
      exact ⟨(S6.out.other _ (by omega)).trans i1.out, plain_cells (by decide), .inr ⟨by omega, by omega⟩⟩
    · rw [if_neg e3] at hb
      by_cases e7 : b = b7
      · subst e7
        simp only [if_true, Option.some.injEq] at hb
        subst hb
        exact ⟨i7.out, plain_cells (by decide), .inr ⟨by omega, by omega⟩⟩
      · rw [if_neg e7] at hb
        by_cases e6 : b = b6
        · subst e6
          simp only [if_true, Option.some.injEq] at hb
          subst hb
          exact ⟨(S6.out.other _ (by omega)).trans i2.out, plain_cells (by decide), .inr ⟨by omega, by omega⟩⟩
        · rw [if_neg e6] at hb; cases hb
  have hbeg : Begun 0 cv0 (GA.start σ.n R mb cells (fun b => cells b ∨ (w.heap.size ≤ b ∧ b < w6.heap.size)) cv0).p := ⟨rfl, rfl, rfl, rfl, rfl, rfl, fun j => ⟨fun h => (Nat.not_lt_zero _ h).elim, fun h => absurd rfl h⟩⟩
  have hcfg : σ = cfgOf (GA.start σ.n R mb cells (fun b => cells b ∨ (w.heap.size ≤ b ∧ b < w6.heap.size)) cv0) none (fun _ => default) default σ.os σ.out := by
    have g1 := hh.out
    have g2 := hd.out
    have g3 := hs.out
    obtain ⟨n, h, dl, seat, os, out⟩ := σ
    simp only at g1 g2 g3
    subst g1 g2 g3
    unfold cfgOf
    simp only [Cfg.mk.injEq, true_and, and_true]
    refine ⟨rfl, ?_⟩
    funext x
    unfold seatOf
    by_cases e : x = 0
    · simp [e]
    · rw [if_neg e, if_neg]
      rintro ⟨h1, h2, _, _⟩
      have h3 : x < n + 0 := h2
      have h4 : n ≤ x := h1
      omega
  have hun0 := until_calls (gm := default) (os := σ.os) (out := σ.out) (bcp := bcp) P.out hB hK hbeg hm.out k3 k7
  have hun : CallsX (tokenJ Try.prog Fin) 121 #[.pointer (some ⟨R, 0, none⟩), .int .i64 most, .slice bbo bs.length bcp, .func (.func 122) #[] #[.pointer (some ⟨b3, 0, none⟩), .pointer (some ⟨b7, 0, none⟩)]] σ w6 (UntilR Fin C most (GA.start σ.n R mb cells (fun b => cells b ∨ (w.heap.size ≤ b ∧ b < w6.heap.size)) cv0) default σ.os σ.out kp picks bs.length cv0) := by
    rw [← hcfg] at hun0
    exact hun0
  clear hun0 hl6 hl5 n7 nR nmb n6 n3 hbeg
  replace B6 := Keep.mk B6
  replace M6 := Keep.mk M6
  replace hB := Keep.mk hB
  replace hkp := Keep.mk hkp
  replace k3 := Keep.mk k3
  replace k7 := Keep.mk k7
  replace k6 := Keep.mk k6
  replace hK := Keep.mk hK
  replace hcfg := Keep.mk hcfg
  replace hun := Keep.mk hun
  refine y_callR rfl (by rfl) rfl rfl Try.func121 (by kernel_rfl) (by kernel_rfl) (hun.out) (by simp only [List.map_toArray, List.map_cons, List.map_nil] <;> rfl) ?_
  rintro v σ'' w7 ⟨A', kap', s', gs', m', rfl, rfl, B', H', hre, hst, hn0, hR', hcl⟩
  have hR2 : A'.R = R := hR'
  have hn2 : A'.n0 = σ.n := hn0
  have hcl2 : A'.cells = cells := hcl
  have i7' := (H' b7 _ k7.out).1
  have c7' : w7.cell? ⟨b7, 0, none⟩ = some (.pointer (some ⟨R, 0, none⟩)) := by unfold World.cell?; rw [i7']; rfl
  have hsz7 : w.heap.size ≤ w7.heap.size := by have := lt_of_get i7'; have := h7.out; omega
  have hrp := report_calls (gm := default) (os := σ.os) (out := σ.out) (en := A'.p.ends) B' H'
  have hnth := hre.nth
  rw [hR2, hn2, hnth] at hrp
  clear i7' hn0 hR' hcl
  replace B' := Keep.mk B'
  replace H' := Keep.mk H'
  replace hre := Keep.mk hre
  replace hst := Keep.mk hst
  replace hR2 := Keep.mk hR2
  replace hn2 := Keep.mk hn2
  replace hcl2 := Keep.mk hcl2
  replace hsz7 := Keep.mk hsz7
  replace hrp := Keep.mk hrp
  replace hnth := Keep.mk hnth
  walk_nrm
  repeat (first
    | refine y_go rfl ?_
    | (refine y_region ?_; simp only [rg, Nat.reduceAdd, List.range, List.range.loop])
    | (refine y_nw rfl (by rfl) rfl (by exact nx rfl) (fun dd hS K hK => ?_); go_simp; refine hK _ _ _ ?_; clear hK K hS dd; simp only [recOf]; try walk_nrm)
    | (refine y_unwanted rfl (by rfl) ?_; try walk_nrm) | refine y_condT rfl ?_ | refine y_condF rfl ?_
    | refine y_block ?_ | refine y_label ?_ | refine y_ret ?_ | refine y_end ?_)
  refine y_callR rfl (by rfl) rfl rfl Try.func123 (by kernel_rfl) (by kernel_rfl) (hrp.out) (by simp only [List.map_toArray, List.map_cons, List.map_nil] <;> rfl) ?_
  rintro v σ'' w8 ⟨rfl, f, lv, hval, hmem, hsz8, hold8, hrow8, hkept8⟩
  have i6' := hkept8 b6 _ k6.out
  obtain ⟨bl, cl, hlv⟩ := row_slice hmem.logs
  obtain ⟨bw, cw, hwv⟩ := row_slice hmem.went
  obtain ⟨by_, cy, hyv⟩ := row_slice hmem.ready
  obtain ⟨bv, cv, rfl⟩ := row_slice hrow8
  have hlv' : A'.logv = .slice bl A'.p.log.length cl := hlv
  have hwv' : A'.wentv = .slice bw A'.p.went.length cw := hwv
  have hyv' : A'.readyv = .slice by_ A'.p.ready.length cy := hyv
  rw [hlv', hwv', hyv'] at hval
  unfold reportV at hval
  subst hval
  clear hlv hwv hyv
  replace hmem := Keep.mk hmem
  replace hsz8 := Keep.mk hsz8
  replace hold8 := Keep.mk hold8
  replace hrow8 := Keep.mk hrow8
  replace hkept8 := Keep.mk hkept8
  replace i6' := Keep.mk i6'
  replace hlv' := Keep.mk hlv'
  replace hwv' := Keep.mk hwv'
  replace hyv' := Keep.mk hyv'
  walk_nrm
  repeat (first
    | refine y_go rfl ?_
    | (refine y_region ?_; simp only [rg, Nat.reduceAdd, List.range, List.range.loop])
    | (refine y_nw rfl (by rfl) rfl (by exact nx rfl) (fun dd hS K hK => ?_); go_simp; refine hK _ _ _ ?_; clear hK K hS dd; simp only [recOf]; try walk_nrm)
    | (refine y_unwanted rfl (by rfl) ?_; try walk_nrm) | refine y_condT rfl ?_ | refine y_condF rfl ?_
    | refine y_block ?_ | refine y_label ?_ | refine y_ret ?_ | refine y_end ?_)
  refine y_storeC (vs := #[.int .i8 A'.p.ends, .int .i64 A'.p.went.length, .slice bl A'.p.log.length cl, .slice bw A'.p.went.length cw, .slice by_ A'.p.ready.length cy, .slice bv (lefts A'.p).length cv, .slice none 0 0]) rfl (by rfl) rfl rfl rfl rfl rfl i6'.out (by first | kernel_rfl | rfl) (Nat.le_of_ble_eq_true rfl) (by simp [Value.oneCell']) (Cfg.Free.cells (free_noseat rfl)) (fun w9 S9 => ?_)
  try walk_nrm
  have hx4 : w9.heap[b6]? = some (.cells #[.int .i8 A'.p.ends, .int .i64 A'.p.went.length, .slice bl A'.p.log.length cl, .slice bw A'.p.went.length cw, .slice by_ A'.p.ready.length cy, .slice bv (lefts A'.p).length cv, .slice none 0 0] 43) := S9.is
  have a0 : w9.cell? ⟨b6, 0, none⟩ = some (.int .i8 A'.p.ends) := by unfold World.cell?; rw [hx4]; rfl
  have a1 : w9.cell? ⟨b6, 1, none⟩ = some (.int .i64 A'.p.went.length) := by unfold World.cell?; rw [hx4]; rfl
  have a2 : w9.cell? ⟨b6, 2, none⟩ = some (.slice bl A'.p.log.length cl) := by unfold World.cell?; rw [hx4]; rfl
  have a3 : w9.cell? ⟨b6, 3, none⟩ = some (.slice bw A'.p.went.length cw) := by unfold World.cell?; rw [hx4]; rfl
  have a4 : w9.cell? ⟨b6, 4, none⟩ = some (.slice by_ A'.p.ready.length cy) := by unfold World.cell?; rw [hx4]; rfl
  have a5 : w9.cell? ⟨b6, 5, none⟩ = some (.slice bv (lefts A'.p).length cv) := by unfold World.cell?; rw [hx4]; rfl
  have a6 : w9.cell? ⟨b6, 6, none⟩ = some (.slice none 0 0) := by unfold World.cell?; rw [hx4]; rfl
  replace S9 := Keep.mk S9
  replace hx4 := Keep.mk hx4
  repeat (first
    | refine y_go rfl ?_
    | (refine y_region ?_; simp only [rg, Nat.reduceAdd, List.range, List.range.loop])
    | (refine y_nw rfl (by rfl) rfl (by exact nx rfl) (fun dd hS K hK => ?_); go_simp; refine hK _ _ _ ?_; clear hK K hS dd; simp only [recOf]; try walk_nrm)
    | (refine y_unwanted rfl (by rfl) ?_; try walk_nrm) | refine y_condT rfl ?_ | refine y_condF rfl ?_
    | refine y_block ?_ | refine y_label ?_ | refine y_ret ?_ | refine y_end ?_)
  refine y_leaveC (v := reportV A'.p.ends A'.p (.slice bl A'.p.log.length cl) (.slice bw A'.p.went.length cw) (.slice by_ A'.p.ready.length cy) (.slice bv (lefts A'.p).length cv)) rfl rfl Try.func30 (fun d => ?_) ?_
  · unfold results reportV
    go_simp
  · have hB' := B'.out
    have o6 : A'.own b6 := (H'.out b6 _ k6.out).2.2
    refine H.out _ _ _ ⟨?_, A', f, kap', s', _, ⟨by rw [hlv'.out, hwv'.out, hyv'.out], hre.out, hst.out, hcl2.out, hmem.out.besideR i6'.out S9.out.other, C.stable hB'.inv (by rw [S9.out.size]; exact hsz8.out) fun b hb ho => ⟨(S9.out.other b fun e => ho (e ▸ o6)).trans (hold8.out b hb ho), ho⟩, by rw [S9.out.size]; exact Nat.le_trans hsz7.out hsz8.out, ?_⟩⟩
    · have g1 := hh.out
      have g2 := hd.out
      have g3 := hs.out
      obtain ⟨n, h, dl, seat, os, out⟩ := σ
      simp only at g1 g2 g3
      subst g1 g2 g3
      rfl
    · have h := row_later hrow8.out fun k hk => S9.out.other k fun e => by
        obtain ⟨_, _, cur, hcur⟩ := row_ty hrow8.out hk
        exact ne_of_obj hcur i6'.out (by simp) e
      exact h.mono hsz7.out
end
end Go.Proofs.Ytcibnfjpagmdaaa
