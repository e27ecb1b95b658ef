/- Main stops the threads that are left, and tells where they stand. -/
import Derived.Test.YtcibnfjpagmdaaaUntil
set_option linter.unusedSimpArgs false
set_option linter.unusedVariables false
set_option maxRecDepth 100000
set_option maxHeartbeats 8000000
namespace Go.Proofs.Ytcibnfjpagmdaaa
open Go.TX Go.Conc Go.RowKit Go.MapKept

/-- Where a thread that is left stands, as it is told. -/
def leftAt (p : Pub) (j : Nat) (a : Acc) : Entry := ⟨j, a.op, if a.cell ∈ p.cn then (p.cn.idxOf a.cell : Int) else -1, a.arg, a.new, p.cv a.cell, p.cv a.cell, false⟩
def leftOf (p : Pub) (j : Nat) : Option Entry := match p.st j with
  | .stands a => some (leftAt p j a)
  | _ => none
def leftsTo (p : Pub) (i : Nat) : List Entry := (List.range i).filterMap (leftOf p)
def lefts (p : Pub) : List Entry := leftsTo p p.nth
theorem leftsTo_on {p : Pub} {i : Nat} {a : Acc} (h : p.st i = .stands a) : leftsTo p (i + 1) = leftsTo p i ++ [leftAt p i a] := by
  unfold leftsTo
  rw [List.range_succ, List.filterMap_append]
  simp [leftOf, h]
theorem leftsTo_off {p : Pub} {i : Nat} (h : (p.st i).lives = false) : leftsTo p (i + 1) = leftsTo p i := by
  unfold leftsTo
  rw [List.range_succ, List.filterMap_append]
  cases e : p.st i <;> simp_all [leftOf, Phase.lives]
theorem leftsTo_le (p : Pub) (i : Nat) : (leftsTo p i).length ≤ i := by
  have := List.length_filterMap_le (leftOf p) (List.range i)
  simpa [leftsTo] using this

def GA.off (A : GA) : GA := { A with stops := true }
def GA.stf (A : GA) (f : Nat → Phase) : GA := { A with p := { A.p with st := f } }

section
variable {A : GA} {w w1 : World}
theorem GMem.off (M : GMem A none w) (S : SetB w w1 A.R (runObj A.off)) : GMem A.off none w1 := by
  have ht := M.runs
  have st : ∀ {b : Nat} {o : Obj}, w.heap[b]? = some o → (∀ x y, o ≠ .cells x 200 y) → w1.heap[b]? = some o := fun {b o} hb n1 => (S.other b (ne_of_obj hb ht (n1 _ _))).trans hb
  have row : ∀ {e : TypeId} {s : Nat} {v : Value} {n : Nat} {ys : List Value}, w.ownsRow 0 e s v n ys → e ≠ 200 → w1.ownsRow 0 e s v n ys := fun {e s v n ys} hr h1 => row_later hr fun k hk => by
    obtain ⟨_, _, cur, hcur⟩ := row_ty hr hk
    exact (st hcur (fun x y h => h1 (Obj.cells.inj h).2.1)).trans hcur.symm
  exact { runs := S.is, mapo := st M.mapo (by simp), thr := fun i hi => st (M.thr i hi) (by simp [thrObj]), wkc := fun i hi => (M.wkc i hi).imp fun k hk => st hk (by simp), sdc := fun i hi => (M.sdc i hi).imp fun k hk => st hk (by simp), tcc := fun i hi => st (M.tcc i hi) (by simp), rcc := fun i hi => st (M.rcc i hi) (by simp), fcc := fun i hi => st (M.fcc i hi) (by simp), ths := row M.ths (by decide), logs := row M.logs (by decide), went := row M.went (by decide), ready := row M.ready (by decide), fell := row M.fell (by decide), cell := fun c hc => st (M.cell c hc).obj (by simp [cellObj]), cnc := M.cnc, cnd := M.cnd, stand := fun i a hi hr hs => ⟨(M.stand i a hi hr hs).1, (M.stand i a hi hr hs).2.1, (M.stand i a hi hr hs).2.2.1, (M.stand i a hi hr hs).2.2.2.1, fun h => absurd h (by simp [GA.off])⟩, born := M.born, small := M.small, apart := ⟨M.apart.1, M.apart.2.1, fun i a hi hr hs h => absurd h (by simp [GA.off])⟩, chans := M.chans, owns := M.owns }
end

section
variable {Fin : Machine → Trace → Prop} {C : Client} {m : Nat} {A : GA} {kap : Nat → C.K} {s : C.S} {gs : Nat → Goroutine} {gm : Goroutine} {os : Os} {out : Array (Nat × ByteArray)} {w : World} {kp : Nat → Option Obj}

/-- What is held when all have been stopped. -/
structure EndsR (A : GA) (w : World) (kp : Nat → Option Obj) (gs : Nat → Goroutine) (gm : Goroutine) (os : Os) (out : Array (Nat × ByteArray)) (v : Value) (σ' : Cfg) (w' : World) (f : Nat → Phase) : Prop where
  cfg : σ' = cfgOf (A.off.stf f) none gs gm os out
  dead : ∀ j, j < A.p.nth → (f j).lives = false
  mem : GMem (A.off.stf f) none w'
  size : w.heap.size ≤ w'.heap.size
  old : ∀ b, b < w.heap.size → ¬ A.own b → w'.heap[b]? = w.heap[b]?
  row : w'.ownsRow w.heap.size 194 8 v (lefts A.p).length (flatLog (lefts A.p))
  kept : ∀ b o, kp b = some o → w'.heap[b]? = some o

theorem ends_calls (B : Board Fin C m A kap s gs w) (Hk : Held kp A w) : CallsX (tokenJ Try.prog Fin) 174 #[.pointer (some ⟨A.R, 0, none⟩)] (cfgOf A none gs gm os out) w fun v σ' w' => ∃ f, EndsR A w kp gs gm os out v σ' w' f := by
  refine callsX_body Try.func174 rfl fun c cs H HN => (tokenJ _ _).snd _ _ _ fun hs => ?_
  simp only [Try.f174, Try.ntmps174, List.size_toArray, List.length_cons, List.length_nil, Nat.reduceAdd, Nat.reduceSub, Nat.zero_add, Array.replicate_succ, Array.replicate_zero, List.push_toArray, List.append_toArray, List.nil_append, List.cons_append, List.append_nil]
  have M := B.mem
  have r0 := M.r0
  have hn64 := M.small.2.2.2
  obtain ⟨bo, cp, hthv⟩ := row_slice M.ths
  rw [hthv] at r0
  replace B := Keep.mk B
  replace Hk := Keep.mk Hk
  replace M := Keep.mk M
  replace H := Keep.mk H
  replace hs := Keep.mk hs
  replace hthv := Keep.mk hthv
  replace hn64 := Keep.mk hn64
  repeat (first
    | refine y_go rfl ?_
    | (refine y_region ?_; simp only [rg, Nat.reduceAdd, List.range, List.range.loop])
    | (refine y_nw rfl (by rfl) rfl (by exact nx rfl) (fun dd hS K hK => ?_); go_simp; refine hK _ _ _ ?_; clear hK K hS dd; simp only [recOf]; try walk_nrm)
    | (refine y_unwanted rfl (by rfl) ?_; try walk_nrm) | refine y_condT rfl ?_ | refine y_condF rfl ?_
    | refine y_block ?_ | refine y_label ?_ | refine y_ret ?_ | refine y_end ?_)
  refine y_loopI (fun r a σ' w' => σ' = cfgOf A none gs gm os out ∧ ∃ (i : Nat) (lv : Value), i ≤ A.p.nth ∧ r = A.p.nth - i ∧ Bigger w w' ∧ w'.ownsRow w.heap.size 194 8 lv (leftsTo A.p i).length (flatLog (leftsTo A.p i)) ∧
      Tm a 89 [(0, .pointer (some ⟨A.R, 0, none⟩)), (3, lv), (14, .slice bo A.p.nth cp), (15, .int .i64 A.p.nth), (16, .int .i64 i)]) A.p.nth
    ⟨rfl, 0, _, Nat.zero_le _, rfl, Bigger.refl w, World.ownsRow_nil _ _ _ _, ⟨rfl, rfl, rfl, rfl, rfl, rfl, rfl, trivial⟩⟩ ?_
  rintro r IH a σ w1 ⟨rfl, i, lv, hi, hr, B1, own, hT⟩
  obtain ⟨j, rfl, h0', h1', h2', h3', h4', -⟩ := Tm.lit hT
  simp only at h0' h1' h2' h3' h4'
  simp only [List.range, List.range.loop, List.map_cons, List.map_nil, h0', h1', h2', h3', h4']
  clear h0' h1' h2' h3' h4' hT
  by_cases e : i < A.p.nth
  · have M1 := M.out.grown B1.old
    have c13 := M1.t13 e
    have hown := M1.ths
    rw [hthv.out] at hown
    obtain ⟨g, cap, hsl, hcell⟩ := row_at hown (by omega)
    simp only [Value.slice.injEq] at hsl
    obtain ⟨rfl, -, rfl⟩ := hsl
    have cg : w1.cell? ⟨g, i, none⟩ = some (.pointer (some ⟨A.tb i, 0, none⟩)) := by
      rw [hcell i e (by simpa using e)]; simp
    have e1 : (i : Int) < A.p.nth := by omega
    have e2 : 0 ≤ (i : Int) := by omega
    have hst : A.p.st i ≠ .unborn := by have := (M.out.born i).1 e; simpa using this
    cases hsi : A.p.st i with
    | unborn => exact absurd hsi hst
    | ended =>
      rw [hsi] at c13
      have c13' : w1.cell? ⟨A.tb i, 13, none⟩ = some (.bool true) := by rw [c13]; simp
      have hlt := leftsTo_off (p := A.p) (i := i) (by rw [hsi]; rfl)
      clear c13
      replace M1 := Keep.mk M1
      replace B1 := Keep.mk B1
      replace own := Keep.mk own
      replace hown := Keep.mk hown
      replace hcell := Keep.mk hcell
      replace hst := Keep.mk hst
      replace hlt := Keep.mk hlt
      replace hi := Keep.mk hi
      replace hr := Keep.mk hr
      replace e := Keep.mk e
      replace IH := Keep.mk IH
      replace hsi := Keep.mk hsi
      repeat (first
        | refine y_go rfl ?_
        | (refine y_region ?_; simp only [rg, Nat.reduceAdd, List.range, List.range.loop])
        | (refine y_nw rfl (by rfl) rfl (by exact nx rfl) (fun dd hS K hK => ?_); go_simp; refine hK _ _ _ ?_; clear hK K hS dd; simp only [recOf]; try walk_nrm)
        | (refine y_unwanted rfl (by rfl) ?_; try walk_nrm) | refine y_condT rfl ?_ | refine y_condF rfl ?_
        | refine y_block ?_ | refine y_label ?_ | refine y_ret ?_ | refine y_end ?_)
      replace M1 := Keep.out M1
      replace B1 := Keep.out B1
      replace own := Keep.out own
      replace hlt := Keep.out hlt
      replace hi := Keep.out hi
      replace hr := Keep.out hr
      replace e := Keep.out e
      replace IH := Keep.out IH
      replace hn64 := Keep.out hn64
      rw [wrap_small (by omega) (by omega), show (i : Int) + 1 = ((i + 1 : Nat) : Int) by omega]
      exact IH _ _ _ _ (by omega) ⟨rfl, i + 1, lv, by omega, rfl, B1, by rw [hlt]; exact own, ⟨rfl, rfl, rfl, rfl, rfl, rfl, rfl, trivial⟩⟩
    | stands ac =>
      rw [hsi] at c13
      have c13' : w1.cell? ⟨A.tb i, 13, none⟩ = some (.bool false) := by rw [c13]; simp
      obtain ⟨h1, h2, h3, h4, _⟩ := M1.stand i ac e (by simp) hsi
      have ht := M1.thr i e
      have c4 : w1.cell? ⟨A.tb i, 4, none⟩ = some (.pointer (some ⟨ac.cell, 0, none⟩)) := by unfold World.cell?; rw [ht]; simp [thrObj, thrCells, h1]
      have d5 : w1.cell? ⟨A.tb i, 5, none⟩ = some (.int .i64 i) := by unfold World.cell?; rw [ht]; simp [thrObj, thrCells, h2, Acc.stand]
      have d6 : w1.cell? ⟨A.tb i, 6, none⟩ = some (.int .i8 ac.op) := by unfold World.cell?; rw [ht]; simp [thrObj, thrCells, h2, Acc.stand]
      have d7 : w1.cell? ⟨A.tb i, 7, none⟩ = some (.int .i64 (-1)) := by unfold World.cell?; rw [ht]; simp [thrObj, thrCells, h2, Acc.stand]
      have d8 : w1.cell? ⟨A.tb i, 8, none⟩ = some (.int .i64 ac.arg) := by unfold World.cell?; rw [ht]; simp [thrObj, thrCells, h2, Acc.stand]
      have d9 : w1.cell? ⟨A.tb i, 9, none⟩ = some (.int .i64 ac.new) := by unfold World.cell?; rw [ht]; simp [thrObj, thrCells, h2, Acc.stand]
      have d10 : w1.cell? ⟨A.tb i, 10, none⟩ = some (.int .i64 0) := by unfold World.cell?; rw [ht]; simp [thrObj, thrCells, h2, Acc.stand]
      have d11 : w1.cell? ⟨A.tb i, 11, none⟩ = some (.int .i64 0) := by unfold World.cell?; rw [ht]; simp [thrObj, thrCells, h2, Acc.stand]
      have d12 : w1.cell? ⟨A.tb i, 12, none⟩ = some (.bool false) := by unfold World.cell?; rw [ht]; simp [thrObj, thrCells, h2, Acc.stand]
      have hv := M1.cell ac.cell h3
      have hlt := leftsTo_on hsi
      clear c13
      replace M1 := Keep.mk M1
      replace B1 := Keep.mk B1
      replace own := Keep.mk own
      replace hown := Keep.mk hown
      replace hcell := Keep.mk hcell
      replace hst := Keep.mk hst
      replace hlt := Keep.mk hlt
      replace hi := Keep.mk hi
      replace hr := Keep.mk hr
      replace e := Keep.mk e
      replace IH := Keep.mk IH
      replace hsi := Keep.mk hsi
      replace h1 := Keep.mk h1
      replace h2 := Keep.mk h2
      replace h3 := Keep.mk h3
      replace h4 := Keep.mk h4
      replace ht := Keep.mk ht
      replace hv := Keep.mk hv
      repeat (first
        | refine y_go rfl ?_
        | (refine y_region ?_; simp only [rg, Nat.reduceAdd, List.range, List.range.loop])
        | (refine y_nw rfl (by rfl) rfl (by exact nx rfl) (fun dd hS K hK => ?_); go_simp; refine hK _ _ _ ?_; clear hK K hS dd; simp only [recOf]; try walk_nrm)
        | (refine y_unwanted rfl (by rfl) ?_; try walk_nrm) | refine y_condT rfl ?_ | refine y_condF rfl ?_
        | refine y_block ?_ | refine y_label ?_ | refine y_ret ?_ | refine y_end ?_)
      obtain ⟨bx, hbx⟩ : ∃ bx, bx = w1.heap.size := ⟨_, rfl⟩
      rw [← hbx]
      have N2 := newO w1 (.cells #[.int .i64 0, .int .i8 0, .int .i64 0, .int .i64 0, .int .i64 0, .int .i64 0, .int .i64 0, .bool false] 194)
      generalize w1.alloc (.cells #[.int .i64 0, .int .i8 0, .int .i64 0, .int .i64 0, .int .i64 0, .int .i64 0, .int .i64 0, .bool false] 194) = w2 at N2 ⊢
      have hx2 := N2.is
      rw [← hbx] at hx2
      have hfx : (cfgOf A none gs gm os out).Free (· = bx) := free_fresh hs.out (by have := B1.out.size; omega)
      refine y_storeC (vs := #[.int .i64 i, .int .i8 ac.op, .int .i64 (-1), .int .i64 ac.arg, .int .i64 ac.new, .int .i64 0, .int .i64 0, .bool false]) rfl (by rfl) rfl rfl rfl rfl rfl hx2 (by first | kernel_rfl | rfl) (Nat.le_of_ble_eq_true rfl) (by simp [Value.oneCell']) (Cfg.Free.cells hfx) (fun w3 S3 => ?_)
      try walk_nrm
      have hx3 : w3.heap[bx]? = some (.cells #[.int .i64 i, .int .i8 ac.op, .int .i64 (-1), .int .i64 ac.arg, .int .i64 ac.new, .int .i64 0, .int .i64 0, .bool false] 194) := S3.is
      have O3 : ∀ b, b < w1.heap.size → w3.heap[b]? = w1.heap[b]? := fun b hb => (S3.other b (by omega)).trans (N2.old b hb)
      have z3 : w3.heap.size = w1.heap.size + 1 := S3.size.trans N2.size
      have r1 : w3.cell? ⟨A.R, 1, none⟩ = some (.map (some A.mb)) := (cell?_of_block (O3 _ (lt_of_get M1.out.runs))).trans M1.out.r1
      have b4 : w3.cell? ⟨A.tb i, 4, none⟩ = some (.pointer (some ⟨ac.cell, 0, none⟩)) := (cell?_of_block (O3 _ (lt_of_get ht.out))).trans c4
      have hm3 : w3.heap[A.mb]? = some (.map (entriesOf A.p.cn) A.p.cn.length) := (O3 _ (lt_of_get M1.out.mapo)).trans M1.out.mapo
      have hv3 : CellIs w3 ac.cell (A.p.cv ac.cell) := hv.out.later (O3 _ hv.out.lt)
      have hcs : ∀ x ∈ A.p.cn, ∃ v, CellIs w3 x v := fun x hx => ⟨_, (M1.out.cell x (M1.out.cnc x hx)).later (O3 _ (M1.out.cell x (M1.out.cnc x hx)).lt)⟩
      have hlk := fun d => run_lookupN (w := w3.at d) hv3 hcs hm3
      replace hbx := Keep.mk hbx
      replace N2 := Keep.mk N2
      replace hx2 := Keep.mk hx2
      replace hfx := Keep.mk hfx
      replace S3 := Keep.mk S3
      replace hx3 := Keep.mk hx3
      replace O3 := Keep.mk O3
      replace z3 := Keep.mk z3
      replace hm3 := Keep.mk hm3
      replace hv3 := Keep.mk hv3
      replace hcs := Keep.mk hcs
      replace hlk := Keep.mk hlk
      repeat (first
        | refine y_go rfl ?_
        | (refine y_region ?_; simp only [rg, Nat.reduceAdd, List.range, List.range.loop])
        | (refine y_nw rfl (by rfl) rfl (by exact nx rfl) (fun dd hS K hK => ?_); go_simp; refine hK _ _ _ ?_; clear hK K hS dd; simp only [recOf]; try walk_nrm)
        | (refine y_unwanted rfl (by rfl) ?_; try walk_nrm) | refine y_condT rfl ?_ | refine y_condF rfl ?_
        | refine y_block ?_ | refine y_label ?_ | refine y_ret ?_ | refine y_end ?_)
      refine y_drawnQ (fun _ w' => w'.cell? ⟨A.R, 1, none⟩ = some (.map (some A.mb)) ∧ w'.cell? ⟨A.tb i, 4, none⟩ = some (.pointer (some ⟨ac.cell, 0, none⟩))) (fun _ => false) (by kernel_rfl) rfl ?_
      simp only [List.size_toArray, List.length_cons, List.length_nil, Nat.reduceAdd, Nat.reduceSub, Nat.zero_add, Array.replicate_succ, Array.replicate_zero, List.push_toArray, List.append_toArray, List.nil_append, List.cons_append, List.append_nil]
      first | (apply anyX_tW (i := 0) rfl; (focus rfl); (focus (exact nx rfl)); (focus (rintro σ' w' ⟨s0, s1⟩ d K hK; go_simp; exact hK)); (focus kernel_rfl); (focus (exact ⟨r1, b4⟩))) | (refine anyX_tU (i := 0) rfl rfl (by kernel_rfl) (by exact ⟨r1, b4⟩) ?_)
      try walk_nrm
      first | (apply anyX_tW (i := 1) rfl; (focus rfl); (focus (exact nx rfl)); (focus (rintro σ' w' ⟨s0, s1⟩ d K hK; go_simp; exact hK)); (focus kernel_rfl); (focus (exact ⟨r1, b4⟩))) | (refine anyX_tU (i := 1) rfl rfl (by kernel_rfl) (by exact ⟨r1, b4⟩) ?_)
      try walk_nrm
      first | (apply anyX_tW (i := 2) rfl; (focus rfl); (focus (exact nx rfl)); (focus (rintro σ' w' ⟨s0, s1⟩ d K hK; go_simp; exact hK)); (focus kernel_rfl); (focus (exact ⟨r1, b4⟩))) | (refine anyX_tU (i := 2) rfl rfl (by kernel_rfl) (by exact ⟨r1, b4⟩) ?_)
      try walk_nrm
      first | (apply anyX_tW (i := 3) rfl; (focus rfl); (focus (exact nx rfl)); (focus (rintro σ' w' ⟨s0, s1⟩ d K hK; go_simp; exact hK)); (focus kernel_rfl); (focus (exact ⟨r1, b4⟩))) | (refine anyX_tU (i := 3) rfl rfl (by kernel_rfl) (by exact ⟨r1, b4⟩) ?_)
      try walk_nrm
      first | (apply anyX_tW (i := 4) rfl; (focus rfl); (focus (exact nx rfl)); (focus (rintro σ' w' ⟨s0, s1⟩ d K hK; go_simp; exact hK)); (focus kernel_rfl); (focus (exact ⟨r1, b4⟩))) | (refine anyX_tU (i := 4) rfl rfl (by kernel_rfl) (by exact ⟨r1, b4⟩) ?_)
      try walk_nrm
      first | (apply anyX_tW (i := 5) rfl; (focus rfl); (focus (exact nx rfl)); (focus (rintro σ' w' ⟨s0, s1⟩ d K hK; go_simp; exact hK)); (focus kernel_rfl); (focus (exact ⟨r1, b4⟩))) | (refine anyX_tU (i := 5) rfl rfl (by kernel_rfl) (by exact ⟨r1, b4⟩) ?_)
      try walk_nrm
      first | (apply anyX_tW (i := 6) rfl; (focus rfl); (focus (exact nx rfl)); (focus (rintro σ' w' ⟨s0, s1⟩ d K hK; go_simp; exact hK)); (focus kernel_rfl); (focus (exact ⟨r1, b4⟩))) | (refine anyX_tU (i := 6) rfl rfl (by kernel_rfl) (by exact ⟨r1, b4⟩) ?_)
      try walk_nrm
      first | (apply anyX_tW (i := 7) rfl; (focus rfl); (focus (exact nx rfl)); (focus (rintro σ' w' ⟨s0, s1⟩ d K hK; go_simp; exact hK)); (focus kernel_rfl); (focus (exact ⟨r1, b4⟩))) | (refine anyX_tU (i := 7) rfl rfl (by kernel_rfl) (by exact ⟨r1, b4⟩) ?_)
      try walk_nrm
      refine anyX_one (i := 8) (by kernel_rfl) (opX_lookup (v := .tuple #[.int .i64 (if ac.cell ∈ A.p.cn then (A.p.cn.idxOf ac.cell : Int) else 0), .bool (decide (ac.cell ∈ A.p.cn))]) rfl (by rfl) rfl rfl rfl hlk.out ?_)
      refine ⟨fun _ => ⟨r1, b4⟩, ?_⟩
      try walk_nrm
      by_cases hmem : ac.cell ∈ A.p.cn
      · simp only [hmem, if_true, decide_true]
        first | (apply anyX_tW (i := 9) rfl; (focus rfl); (focus (exact nx rfl)); (focus (rintro σ' w' ⟨s0, s1⟩ d K hK; go_simp; exact hK)); (focus kernel_rfl); (focus (exact ⟨r1, b4⟩))) | (refine anyX_tU (i := 9) rfl rfl (by kernel_rfl) (by exact ⟨r1, b4⟩) ?_)
        try walk_nrm
        first | (apply anyX_tW (i := 10) rfl; (focus rfl); (focus (exact nx rfl)); (focus (rintro σ' w' ⟨s0, s1⟩ d K hK; go_simp; exact hK)); (focus kernel_rfl); (focus (exact ⟨r1, b4⟩))) | (refine anyX_tU (i := 10) rfl rfl (by kernel_rfl) (by exact ⟨r1, b4⟩) ?_)
        try walk_nrm
        first | (apply anyX_tW (i := 11) rfl; (focus rfl); (focus (exact nx rfl)); (focus (rintro σ' w' ⟨s0, s1⟩ d K hK; go_simp; exact hK)); (focus kernel_rfl); (focus (exact ⟨r1, b4⟩))) | (refine anyX_tU (i := 11) rfl rfl (by kernel_rfl) (by exact ⟨r1, b4⟩) ?_)
        try walk_nrm
        first | (apply anyX_tW (i := 12) rfl; (focus rfl); (focus (exact nx rfl)); (focus (rintro σ' w' ⟨s0, s1⟩ d K hK; go_simp; exact hK)); (focus kernel_rfl); (focus (exact ⟨r1, b4⟩))) | (refine anyX_tU (i := 12) rfl rfl (by kernel_rfl) (by exact ⟨r1, b4⟩) ?_)
        try walk_nrm
        first | (apply anyX_tW (i := 13) rfl; (focus rfl); (focus (exact nx rfl)); (focus (rintro σ' w' ⟨s0, s1⟩ d K hK; go_simp; exact hK)); (focus kernel_rfl); (focus (exact ⟨r1, b4⟩))) | (refine anyX_tU (i := 13) rfl rfl (by kernel_rfl) (by exact ⟨r1, b4⟩) ?_)
        try walk_nrm
        refine anyX_end (by kernel_rfl) ?_
        repeat (first
          | refine y_go rfl ?_
          | (refine y_region ?_; simp only [rg, Nat.reduceAdd, List.range, List.range.loop])
          | (refine y_nw rfl (by rfl) rfl (by exact nx rfl) (fun dd hS K hK => ?_); go_simp; refine hK _ _ _ ?_; clear hK K hS dd; simp only [recOf]; try walk_nrm)
          | (refine y_unwanted rfl (by rfl) ?_; try walk_nrm) | refine y_condT rfl ?_ | refine y_condF rfl ?_
          | refine y_block ?_ | refine y_label ?_ | refine y_ret ?_ | refine y_end ?_)
        refine y_storeC (vs := #[.int .i64 (A.p.cn.idxOf ac.cell : Int)]) rfl (by rfl) rfl rfl rfl rfl rfl hx3.out (by first | kernel_rfl | rfl) (Nat.le_of_ble_eq_true rfl) (by simp [Value.oneCell']) (Cfg.Free.cells hfx.out) (fun w4 S4 => ?_)
        try walk_nrm
        have hx4 : w4.heap[bx]? = some (.cells #[.int .i64 i, .int .i8 ac.op, .int .i64 (A.p.cn.idxOf ac.cell : Int), .int .i64 ac.arg, .int .i64 ac.new, .int .i64 0, .int .i64 0, .bool false] 194) := S4.is
        have O4 : ∀ b, b < w1.heap.size → w4.heap[b]? = w1.heap[b]? := fun b hb => (S4.other b (by have := hbx.out; omega)).trans (O3.out b hb)
        have z4 : w4.heap.size = w1.heap.size + 1 := S4.size.trans z3.out
        clear r1 b4
        replace hx4 := Keep.mk hx4
        replace O4 := Keep.mk O4
        replace z4 := Keep.mk z4
        replace S4 := Keep.mk S4
        have r1 : w4.cell? ⟨A.R, 1, none⟩ = some (.map (some A.mb)) := (cell?_of_block (O4.out _ (lt_of_get M1.out.runs))).trans M1.out.r1
        have b4 : w4.cell? ⟨A.tb i, 4, none⟩ = some (.pointer (some ⟨ac.cell, 0, none⟩)) := (cell?_of_block (O4.out _ (lt_of_get ht.out))).trans c4
        have hv4 : CellIs w4 ac.cell (A.p.cv ac.cell) := hv.out.later (O4.out _ hv.out.lt)
        replace hv4 := Keep.mk hv4
        repeat (first
          | refine y_go rfl ?_
          | (refine y_region ?_; simp only [rg, Nat.reduceAdd, List.range, List.range.loop])
          | (refine y_nw rfl (by rfl) rfl (by exact nx rfl) (fun dd hS K hK => ?_); go_simp; refine hK _ _ _ ?_; clear hK K hS dd; simp only [recOf]; try walk_nrm)
          | (refine y_unwanted rfl (by rfl) ?_; try walk_nrm) | refine y_condT rfl ?_ | refine y_condF rfl ?_
          | refine y_block ?_ | refine y_label ?_ | refine y_ret ?_ | refine y_end ?_)
        refine y_callR rfl (by rfl) rfl rfl Try.func141 (by kernel_rfl) (by kernel_rfl) (i64_load ⟨ac.cell, 0, none⟩ _ hv4.out.v) (by simp only [List.map_toArray, List.map_cons, List.map_nil] <;> rfl) ?_
        rintro _ σ'' w'' ⟨rfl, e2, e3⟩
        rw [e2, e3]
        clear e2 e3 w'' σ''
        walk_nrm
        repeat (first
          | refine y_go rfl ?_
          | (refine y_region ?_; simp only [rg, Nat.reduceAdd, List.range, List.range.loop])
          | (refine y_nw rfl (by rfl) rfl (by exact nx rfl) (fun dd hS K hK => ?_); go_simp; refine hK _ _ _ ?_; clear hK K hS dd; simp only [recOf]; try walk_nrm)
          | (refine y_unwanted rfl (by rfl) ?_; try walk_nrm) | refine y_condT rfl ?_ | refine y_condF rfl ?_
          | refine y_block ?_ | refine y_label ?_ | refine y_ret ?_ | refine y_end ?_)
        refine y_storeC (vs := #[.int .i64 (A.p.cv ac.cell)]) rfl (by rfl) rfl rfl rfl rfl rfl hx4.out (by first | kernel_rfl | rfl) (Nat.le_of_ble_eq_true rfl) (by simp [Value.oneCell']) (Cfg.Free.cells hfx.out) (fun w5 S5 => ?_)
        try walk_nrm
        have hx5 : w5.heap[bx]? = some (.cells #[.int .i64 i, .int .i8 ac.op, .int .i64 (A.p.cn.idxOf ac.cell : Int), .int .i64 ac.arg, .int .i64 ac.new, .int .i64 (A.p.cv ac.cell), .int .i64 0, .bool false] 194) := S5.is
        have f5 : w5.cell? ⟨bx, 5, none⟩ = some (.int .i64 (A.p.cv ac.cell)) := by unfold World.cell?; rw [hx5]; rfl
        replace S5 := Keep.mk S5
        replace hx5 := Keep.mk hx5
        repeat (first
          | refine y_go rfl ?_
          | (refine y_region ?_; simp only [rg, Nat.reduceAdd, List.range, List.range.loop])
          | (refine y_nw rfl (by rfl) rfl (by exact nx rfl) (fun dd hS K hK => ?_); go_simp; refine hK _ _ _ ?_; clear hK K hS dd; simp only [recOf]; try walk_nrm)
          | (refine y_unwanted rfl (by rfl) ?_; try walk_nrm) | refine y_condT rfl ?_ | refine y_condF rfl ?_
          | refine y_block ?_ | refine y_label ?_ | refine y_ret ?_ | refine y_end ?_)
        refine y_storeC (vs := #[.int .i64 (A.p.cv ac.cell)]) rfl (by rfl) rfl rfl rfl rfl rfl hx5.out (by first | kernel_rfl | rfl) (Nat.le_of_ble_eq_true rfl) (by simp [Value.oneCell']) (Cfg.Free.cells hfx.out) (fun w6 S6 => ?_)
        try walk_nrm
        have hx6 : w6.heap[bx]? = some (.cells #[.int .i64 i, .int .i8 ac.op, .int .i64 (A.p.cn.idxOf ac.cell : Int), .int .i64 ac.arg, .int .i64 ac.new, .int .i64 (A.p.cv ac.cell), .int .i64 (A.p.cv ac.cell), .bool false] 194) := S6.is
        have O6 : ∀ b, b < w1.heap.size → w6.heap[b]? = w1.heap[b]? := fun b hb => (S6.other b (by have := hbx.out; omega)).trans ((S5.out.other b (by have := hbx.out; omega)).trans (O4.out b hb))
        have z6 : w6.heap.size = w1.heap.size + 1 := S6.size.trans (S5.out.size.trans z4.out)
        obtain ⟨g0, g1, g2, g3, g4, g5, g6, g7⟩ := row8 hx6
        replace S6 := Keep.mk S6
        replace hx6 := Keep.mk hx6
        replace O6 := Keep.mk O6
        replace z6 := Keep.mk z6
        repeat (first
          | refine y_go rfl ?_
          | (refine y_region ?_; simp only [rg, Nat.reduceAdd, List.range, List.range.loop])
          | (refine y_nw rfl (by rfl) rfl (by exact nx rfl) (fun dd hS K hK => ?_); go_simp; refine hK _ _ _ ?_; clear hK K hS dd; simp only [recOf]; try walk_nrm)
          | (refine y_unwanted rfl (by rfl) ?_; try walk_nrm) | refine y_condT rfl ?_ | refine y_condF rfl ?_
          | refine y_block ?_ | refine y_label ?_ | refine y_ret ?_ | refine y_end ?_)
        have N7 := newO w6 (.cells #[.int .i64 i, .int .i8 ac.op, .int .i64 (A.p.cn.idxOf ac.cell : Int), .int .i64 ac.arg, .int .i64 ac.new, .int .i64 (A.p.cv ac.cell), .int .i64 (A.p.cv ac.cell), .bool false] 194)
        have n7 := cells_new w6 [.int .i64 i, .int .i8 ac.op, .int .i64 (A.p.cn.idxOf ac.cell : Int), .int .i64 ac.arg, .int .i64 ac.new, .int .i64 (A.p.cv ac.cell), .int .i64 (A.p.cv ac.cell), .bool false] 194
        generalize w6.alloc (.cells #[.int .i64 i, .int .i8 ac.op, .int .i64 (A.p.cn.idxOf ac.cell : Int), .int .i64 ac.arg, .int .i64 ac.new, .int .i64 (A.p.cv ac.cell), .int .i64 (A.p.cv ac.cell), .bool false] 194) = w7 at N7 n7 ⊢
        have z7 := N7.size
        have B7 : Bigger w1 w7 := ⟨by have := z6.out; omega, fun b hb => (N7.old b (by have := z6.out; omega)).trans (O6.out b hb)⟩
        have own7 := row_later own.out fun k hk => B7.old k (row_ty own.out hk).2.1
        have hlen := leftsTo_le A.p i
        have hbz := Nat.le_trans B1.out.size B7.size
        obtain ⟨i0, hi0, hz0, hz1, hz2⟩ := info_parts (P := Try.prog) (e := 194) (z := .agg #[.int .i64 0, .int .i8 0, .int .i64 0, .int .i64 0, .int .i64 0, .int .i64 0, .int .i64 0, .bool false]) (size := 8) (bytes := 64) (by kernel_rfl)
        have hn64' := hn64.out
        have e' := e.out
        refine y_append (size := 8) (bytes := 64) rfl (by rfl) rfl rfl Try.underlying41 hi0 hz0 hz1 hz2 rfl (by decide) w.heap.size rfl own7 rfl rfl n7 (fun x hx => by simp at hx; rcases hx with rfl | rfl | rfl | rfl | rfl | rfl | rfl | rfl <;> rfl) (by unfold maxLen; omega) (by omega) hbz (free_row own7 fun b hb => free_fresh hs.out hb) fun sv' w8 own8 g8 _ _ => ?_
        walk_nrm
        have B8 : Bigger w w8 := ⟨Nat.le_trans hbz g8.size, fun b hb => (g8.block b (Nat.lt_of_lt_of_le hb hbz) fun e => by have := (row_ty own7 e.symm).1; omega).trans ((B7.old b (Nat.lt_of_lt_of_le hb B1.out.size)).trans (B1.out.old b hb))⟩
        have own9 : w8.ownsRow w.heap.size 194 8 sv' (leftsTo A.p (i + 1)).length (flatLog (leftsTo A.p (i + 1))) := by
          rw [hlt.out, List.length_append, flatLog_snoc]
          have hce : (leftAt A.p i ac).cells = [.int .i64 i, .int .i8 ac.op, .int .i64 (A.p.cn.idxOf ac.cell : Int), .int .i64 ac.arg, .int .i64 ac.new, .int .i64 (A.p.cv ac.cell), .int .i64 (A.p.cv ac.cell), .bool false] := by
            simp [leftAt, Entry.cells, hmem]
          rw [hce]
          exact own8
        clear own8 g8 own7 B7 z7 N7 n7 g0 g1 g2 g3 g4 g5 g6 g7 f5 r1 b4 hi0 hz0 hz1 hz2 i0 hbz hlen
        replace own9 := Keep.mk own9
        replace B8 := Keep.mk B8
        repeat (first
          | refine y_go rfl ?_
          | (refine y_region ?_; simp only [rg, Nat.reduceAdd, List.range, List.range.loop])
          | (refine y_nw rfl (by rfl) rfl (by exact nx rfl) (fun dd hS K hK => ?_); go_simp; refine hK _ _ _ ?_; clear hK K hS dd; simp only [recOf]; try walk_nrm)
          | (refine y_unwanted rfl (by rfl) ?_; try walk_nrm) | refine y_condT rfl ?_ | refine y_condF rfl ?_
          | refine y_block ?_ | refine y_label ?_ | refine y_ret ?_ | refine y_end ?_)
        replace own9 := Keep.out own9
        replace B8 := Keep.out B8
        replace hi := Keep.out hi
        replace hr := Keep.out hr
        replace e := Keep.out e
        replace IH := Keep.out IH
        replace hn64 := Keep.out hn64
        rw [wrap_small (by omega) (by omega), show (i : Int) + 1 = ((i + 1 : Nat) : Int) by omega]
        exact IH _ _ _ _ (by omega) ⟨rfl, i + 1, sv', by omega, rfl, B8, own9, ⟨rfl, rfl, rfl, rfl, rfl, rfl, rfl, trivial⟩⟩
      · simp only [hmem, if_false, decide_false]
        first | (apply anyX_tW (i := 9) rfl; (focus rfl); (focus (exact nx rfl)); (focus (rintro σ' w' ⟨s0, s1⟩ d K hK; go_simp; exact hK)); (focus kernel_rfl); (focus (exact ⟨r1, b4⟩))) | (refine anyX_tU (i := 9) rfl rfl (by kernel_rfl) (by exact ⟨r1, b4⟩) ?_)
        try walk_nrm
        first | (apply anyX_tW (i := 10) rfl; (focus rfl); (focus (exact nx rfl)); (focus (rintro σ' w' ⟨s0, s1⟩ d K hK; go_simp; exact hK)); (focus kernel_rfl); (focus (exact ⟨r1, b4⟩))) | (refine anyX_tU (i := 10) rfl rfl (by kernel_rfl) (by exact ⟨r1, b4⟩) ?_)
        try walk_nrm
        first | (apply anyX_tW (i := 11) rfl; (focus rfl); (focus (exact nx rfl)); (focus (rintro σ' w' ⟨s0, s1⟩ d K hK; go_simp; exact hK)); (focus kernel_rfl); (focus (exact ⟨r1, b4⟩))) | (refine anyX_tU (i := 11) rfl rfl (by kernel_rfl) (by exact ⟨r1, b4⟩) ?_)
        try walk_nrm
        first | (apply anyX_tW (i := 12) rfl; (focus rfl); (focus (exact nx rfl)); (focus (rintro σ' w' ⟨s0, s1⟩ d K hK; go_simp; exact hK)); (focus kernel_rfl); (focus (exact ⟨r1, b4⟩))) | (refine anyX_tU (i := 12) rfl rfl (by kernel_rfl) (by exact ⟨r1, b4⟩) ?_)
        try walk_nrm
        first | (apply anyX_tW (i := 13) rfl; (focus rfl); (focus (exact nx rfl)); (focus (rintro σ' w' ⟨s0, s1⟩ d K hK; go_simp; exact hK)); (focus kernel_rfl); (focus (exact ⟨r1, b4⟩))) | (refine anyX_tU (i := 13) rfl rfl (by kernel_rfl) (by exact ⟨r1, b4⟩) ?_)
        try walk_nrm
        refine anyX_end (by kernel_rfl) ?_
        have hx4 := hx3
        have O4 := O3
        have z4 := z3
        clear r1 b4
        have r1 : w3.cell? ⟨A.R, 1, none⟩ = some (.map (some A.mb)) := (cell?_of_block (O4.out _ (lt_of_get M1.out.runs))).trans M1.out.r1
        have b4 : w3.cell? ⟨A.tb i, 4, none⟩ = some (.pointer (some ⟨ac.cell, 0, none⟩)) := (cell?_of_block (O4.out _ (lt_of_get ht.out))).trans c4
        have hv4 : CellIs w3 ac.cell (A.p.cv ac.cell) := hv.out.later (O4.out _ hv.out.lt)
        replace hv4 := Keep.mk hv4
        repeat (first
          | refine y_go rfl ?_
          | (refine y_region ?_; simp only [rg, Nat.reduceAdd, List.range, List.range.loop])
          | (refine y_nw rfl (by rfl) rfl (by exact nx rfl) (fun dd hS K hK => ?_); go_simp; refine hK _ _ _ ?_; clear hK K hS dd; simp only [recOf]; try walk_nrm)
          | (refine y_unwanted rfl (by rfl) ?_; try walk_nrm) | refine y_condT rfl ?_ | refine y_condF rfl ?_
          | refine y_block ?_ | refine y_label ?_ | refine y_ret ?_ | refine y_end ?_)
        refine y_callR rfl (by rfl) rfl rfl Try.func141 (by kernel_rfl) (by kernel_rfl) (i64_load ⟨ac.cell, 0, none⟩ _ hv4.out.v) (by simp only [List.map_toArray, List.map_cons, List.map_nil] <;> rfl) ?_
        rintro _ σ'' w'' ⟨rfl, e2, e3⟩
        rw [e2, e3]
        clear e2 e3 w'' σ''
        walk_nrm
        repeat (first
          | refine y_go rfl ?_
          | (refine y_region ?_; simp only [rg, Nat.reduceAdd, List.range, List.range.loop])
          | (refine y_nw rfl (by rfl) rfl (by exact nx rfl) (fun dd hS K hK => ?_); go_simp; refine hK _ _ _ ?_; clear hK K hS dd; simp only [recOf]; try walk_nrm)
          | (refine y_unwanted rfl (by rfl) ?_; try walk_nrm) | refine y_condT rfl ?_ | refine y_condF rfl ?_
          | refine y_block ?_ | refine y_label ?_ | refine y_ret ?_ | refine y_end ?_)
        refine y_storeC (vs := #[.int .i64 (A.p.cv ac.cell)]) rfl (by rfl) rfl rfl rfl rfl rfl hx4.out (by first | kernel_rfl | rfl) (Nat.le_of_ble_eq_true rfl) (by simp [Value.oneCell']) (Cfg.Free.cells hfx.out) (fun w5 S5 => ?_)
        try walk_nrm
        have hx5 : w5.heap[bx]? = some (.cells #[.int .i64 i, .int .i8 ac.op, .int .i64 (-1), .int .i64 ac.arg, .int .i64 ac.new, .int .i64 (A.p.cv ac.cell), .int .i64 0, .bool false] 194) := S5.is
        have f5 : w5.cell? ⟨bx, 5, none⟩ = some (.int .i64 (A.p.cv ac.cell)) := by unfold World.cell?; rw [hx5]; rfl
        replace S5 := Keep.mk S5
        replace hx5 := Keep.mk hx5
        repeat (first
          | refine y_go rfl ?_
          | (refine y_region ?_; simp only [rg, Nat.reduceAdd, List.range, List.range.loop])
          | (refine y_nw rfl (by rfl) rfl (by exact nx rfl) (fun dd hS K hK => ?_); go_simp; refine hK _ _ _ ?_; clear hK K hS dd; simp only [recOf]; try walk_nrm)
          | (refine y_unwanted rfl (by rfl) ?_; try walk_nrm) | refine y_condT rfl ?_ | refine y_condF rfl ?_
          | refine y_block ?_ | refine y_label ?_ | refine y_ret ?_ | refine y_end ?_)
        refine y_storeC (vs := #[.int .i64 (A.p.cv ac.cell)]) rfl (by rfl) rfl rfl rfl rfl rfl hx5.out (by first | kernel_rfl | rfl) (Nat.le_of_ble_eq_true rfl) (by simp [Value.oneCell']) (Cfg.Free.cells hfx.out) (fun w6 S6 => ?_)
        try walk_nrm
        have hx6 : w6.heap[bx]? = some (.cells #[.int .i64 i, .int .i8 ac.op, .int .i64 (-1), .int .i64 ac.arg, .int .i64 ac.new, .int .i64 (A.p.cv ac.cell), .int .i64 (A.p.cv ac.cell), .bool false] 194) := S6.is
        have O6 : ∀ b, b < w1.heap.size → w6.heap[b]? = w1.heap[b]? := fun b hb => (S6.other b (by have := hbx.out; omega)).trans ((S5.out.other b (by have := hbx.out; omega)).trans (O4.out b hb))
        have z6 : w6.heap.size = w1.heap.size + 1 := S6.size.trans (S5.out.size.trans z4.out)
        obtain ⟨g0, g1, g2, g3, g4, g5, g6, g7⟩ := row8 hx6
        replace S6 := Keep.mk S6
        replace hx6 := Keep.mk hx6
        replace O6 := Keep.mk O6
        replace z6 := Keep.mk z6
        repeat (first
          | refine y_go rfl ?_
          | (refine y_region ?_; simp only [rg, Nat.reduceAdd, List.range, List.range.loop])
          | (refine y_nw rfl (by rfl) rfl (by exact nx rfl) (fun dd hS K hK => ?_); go_simp; refine hK _ _ _ ?_; clear hK K hS dd; simp only [recOf]; try walk_nrm)
          | (refine y_unwanted rfl (by rfl) ?_; try walk_nrm) | refine y_condT rfl ?_ | refine y_condF rfl ?_
          | refine y_block ?_ | refine y_label ?_ | refine y_ret ?_ | refine y_end ?_)
        have N7 := newO w6 (.cells #[.int .i64 i, .int .i8 ac.op, .int .i64 (-1), .int .i64 ac.arg, .int .i64 ac.new, .int .i64 (A.p.cv ac.cell), .int .i64 (A.p.cv ac.cell), .bool false] 194)
        have n7 := cells_new w6 [.int .i64 i, .int .i8 ac.op, .int .i64 (-1), .int .i64 ac.arg, .int .i64 ac.new, .int .i64 (A.p.cv ac.cell), .int .i64 (A.p.cv ac.cell), .bool false] 194
        generalize w6.alloc (.cells #[.int .i64 i, .int .i8 ac.op, .int .i64 (-1), .int .i64 ac.arg, .int .i64 ac.new, .int .i64 (A.p.cv ac.cell), .int .i64 (A.p.cv ac.cell), .bool false] 194) = w7 at N7 n7 ⊢
        have z7 := N7.size
        have B7 : Bigger w1 w7 := ⟨by have := z6.out; omega, fun b hb => (N7.old b (by have := z6.out; omega)).trans (O6.out b hb)⟩
        have own7 := row_later own.out fun k hk => B7.old k (row_ty own.out hk).2.1
        have hlen := leftsTo_le A.p i
        have hbz := Nat.le_trans B1.out.size B7.size
        obtain ⟨i0, hi0, hz0, hz1, hz2⟩ := info_parts (P := Try.prog) (e := 194) (z := .agg #[.int .i64 0, .int .i8 0, .int .i64 0, .int .i64 0, .int .i64 0, .int .i64 0, .int .i64 0, .bool false]) (size := 8) (bytes := 64) (by kernel_rfl)
        have hn64' := hn64.out
        have e' := e.out
        refine y_append (size := 8) (bytes := 64) rfl (by rfl) rfl rfl Try.underlying41 hi0 hz0 hz1 hz2 rfl (by decide) w.heap.size rfl own7 rfl rfl n7 (fun x hx => by simp at hx; rcases hx with rfl | rfl | rfl | rfl | rfl | rfl | rfl | rfl <;> rfl) (by unfold maxLen; omega) (by omega) hbz (free_row own7 fun b hb => free_fresh hs.out hb) fun sv' w8 own8 g8 _ _ => ?_
        walk_nrm
        have B8 : Bigger w w8 := ⟨Nat.le_trans hbz g8.size, fun b hb => (g8.block b (Nat.lt_of_lt_of_le hb hbz) fun e => by have := (row_ty own7 e.symm).1; omega).trans ((B7.old b (Nat.lt_of_lt_of_le hb B1.out.size)).trans (B1.out.old b hb))⟩
        have own9 : w8.ownsRow w.heap.size 194 8 sv' (leftsTo A.p (i + 1)).length (flatLog (leftsTo A.p (i + 1))) := by
          rw [hlt.out, List.length_append, flatLog_snoc]
          have hce : (leftAt A.p i ac).cells = [.int .i64 i, .int .i8 ac.op, .int .i64 (-1), .int .i64 ac.arg, .int .i64 ac.new, .int .i64 (A.p.cv ac.cell), .int .i64 (A.p.cv ac.cell), .bool false] := by
            simp [leftAt, Entry.cells, hmem]
          rw [hce]
          exact own8
        clear own8 g8 own7 B7 z7 N7 n7 g0 g1 g2 g3 g4 g5 g6 g7 f5 r1 b4 hi0 hz0 hz1 hz2 i0 hbz hlen
        replace own9 := Keep.mk own9
        replace B8 := Keep.mk B8
        repeat (first
          | refine y_go rfl ?_
          | (refine y_region ?_; simp only [rg, Nat.reduceAdd, List.range, List.range.loop])
          | (refine y_nw rfl (by rfl) rfl (by exact nx rfl) (fun dd hS K hK => ?_); go_simp; refine hK _ _ _ ?_; clear hK K hS dd; simp only [recOf]; try walk_nrm)
          | (refine y_unwanted rfl (by rfl) ?_; try walk_nrm) | refine y_condT rfl ?_ | refine y_condF rfl ?_
          | refine y_block ?_ | refine y_label ?_ | refine y_ret ?_ | refine y_end ?_)
        replace own9 := Keep.out own9
        replace B8 := Keep.out B8
        replace hi := Keep.out hi
        replace hr := Keep.out hr
        replace e := Keep.out e
        replace IH := Keep.out IH
        replace hn64 := Keep.out hn64
        rw [wrap_small (by omega) (by omega), show (i : Int) + 1 = ((i + 1 : Nat) : Int) by omega]
        exact IH _ _ _ _ (by omega) ⟨rfl, i + 1, sv', by omega, rfl, B8, own9, ⟨rfl, rfl, rfl, rfl, rfl, rfl, rfl, trivial⟩⟩
  · have hin : i = A.p.nth := by omega
    have e1 : ¬ ((i : Int) < A.p.nth) := by omega
    have hrow : w1.ownsRow w.heap.size 194 8 lv (lefts A.p).length (flatLog (lefts A.p)) := by
      have h := own
      rw [hin] at h
      exact h
    clear own
    have M1 := M.out.grown B1.old
    have hrun1 := M1.runs
    have hfR : (cfgOf A none gs gm os out).Free (· = A.R) := free_of M.out (fun i hi => by cases hi) fun i hi => by
      obtain ⟨k1, h1⟩ := M.out.wkc i hi
      obtain ⟨k2, h2⟩ := M.out.sdc i hi
      have hb := M.out.runs
      exact ⟨ne_of_obj hb h1 (by simp [runObj]), ne_of_obj hb h2 (by simp [runObj]), ne_of_obj hb (M.out.tcc i hi) (by simp [runObj]), ne_of_obj hb (M.out.thr i hi) (by simp [runObj, thrObj])⟩
    clear IH hr
    replace hrow := Keep.mk hrow
    replace M1 := Keep.mk M1
    replace B1 := Keep.mk B1
    replace hrun1 := Keep.mk hrun1
    replace hfR := Keep.mk hfR
    replace hi := Keep.mk hi
    replace hin := Keep.mk hin
    repeat (first
      | refine y_go rfl ?_
      | (refine y_region ?_; simp only [rg, Nat.reduceAdd, List.range, List.range.loop])
      | (refine y_nw rfl (by rfl) rfl (by exact nx rfl) (fun dd hS K hK => ?_); go_simp; refine hK _ _ _ ?_; clear hK K hS dd; simp only [recOf]; try walk_nrm)
      | (refine y_unwanted rfl (by rfl) ?_; try walk_nrm) | refine y_condT rfl ?_ | refine y_condF rfl ?_
      | refine y_block ?_ | refine y_label ?_ | refine y_ret ?_ | refine y_end ?_)
    refine y_storeC (vs := #[.bool true]) rfl (by rfl) rfl rfl rfl rfl rfl hrun1.out (by first | kernel_rfl | rfl) (Nat.le_of_ble_eq_true rfl) (by simp [Value.oneCell']) (Cfg.Free.cells hfR.out) (fun w2 S2 => ?_)
    try walk_nrm
    have S2' : SetB w1 w2 A.R (runObj A.off) := ⟨S2.is, S2.size, S2.other⟩
    have M2 : GMem A.off none w2 := M1.out.off S2'
    have hrow2 := row_later hrow.out fun k hk => S2.other k fun e => by
      obtain ⟨_, _, cur, hcur⟩ := row_ty hrow.out hk
      exact ne_of_obj hcur hrun1.out (by simp [runObj]) e
    have hsz2 : w.heap.size ≤ w2.heap.size := by rw [S2.size]; exact B1.out.size
    have hold2 : ∀ b, b < w.heap.size → b ≠ A.R → w2.heap[b]? = w.heap[b]? := fun b hb hne => (S2.other b hne).trans (B1.out.old b hb)
    have hSt : Stopped Fin (A.off.stf A.p.st) gs w2 := ⟨M2, B.out.n0, rfl, fun j hj hl => by
      cases h : A.p.st j with
      | stands a => exact Promise.le Fin C (B.out.pr j a hj h) (Nat.zero_le m)
      | unborn => rw [show (A.off.stf A.p.st).p.st j = A.p.st j from rfl, h] at hl; cases hl
      | ended => rw [show (A.off.stf A.p.st).p.st j = A.p.st j from rfl, h] at hl; cases hl⟩
    have hkp2 : ∀ b o, kp b = some o → w2.heap[b]? = some o := fun b o hb => by
      obtain ⟨h1, h2, _⟩ := Hk.out b o hb
      exact (hold2 b (lt_of_get h1) (ne_of_obj h1 M.out.runs fun e => (h2.cells _ _ _ e).1 rfl)).trans h1
    have hnR : ∀ b, ¬ A.own b → b ≠ A.R := fun b h e => h (e ▸ M.out.owns.1)
    clear S2 S2' M2
    replace hrow2 := Keep.mk hrow2
    replace hsz2 := Keep.mk hsz2
    replace hold2 := Keep.mk hold2
    replace hSt := Keep.mk hSt
    replace hkp2 := Keep.mk hkp2
    replace hnR := Keep.mk hnR
    repeat (first
      | refine y_go rfl ?_
      | (refine y_region ?_; simp only [rg, Nat.reduceAdd, List.range, List.range.loop])
      | (refine y_nw rfl (by rfl) rfl (by exact nx rfl) (fun dd hS K hK => ?_); go_simp; refine hK _ _ _ ?_; clear hK K hS dd; simp only [recOf]; try walk_nrm)
      | (refine y_unwanted rfl (by rfl) ?_; try walk_nrm) | refine y_condT rfl ?_ | refine y_condF rfl ?_
      | refine y_block ?_ | refine y_label ?_ | refine y_ret ?_ | refine y_end ?_)
    refine y_loopI (fun r a σ' w' => ∃ (i : Nat) (f : Nat → Phase), i ≤ A.p.nth ∧ r = A.p.nth - i ∧ σ' = cfgOf (A.off.stf f) none gs gm os out ∧ (∀ j, j < i → (f j).lives = false) ∧ Stopped Fin (A.off.stf f) gs w' ∧ w.heap.size ≤ w'.heap.size ∧ (∀ b, b < w.heap.size → ¬ A.own b → w'.heap[b]? = w.heap[b]?) ∧
        w'.ownsRow w.heap.size 194 8 lv (lefts A.p).length (flatLog (lefts A.p)) ∧ (∀ b o, kp b = some o → w'.heap[b]? = some o) ∧
        Tm a 89 [(0, .pointer (some ⟨A.R, 0, none⟩)), (3, lv), (9, .int .i64 i)]) A.p.nth
      ⟨0, A.p.st, Nat.zero_le _, rfl, rfl, fun j hj => absurd hj (Nat.not_lt_zero j), hSt.out, hsz2.out, fun b hb ho => hold2.out b hb (hnR.out b ho), hrow2.out, hkp2.out, ⟨rfl, rfl, rfl, rfl, rfl, trivial⟩⟩ ?_
    clear hrow2 hsz2 hold2 hSt hkp2 hnR hrow M1 B1 hrun1 hfR hi hin e e1 w1 w2 j r0 i
    rintro r IH a σ w1 ⟨i, f, hi, hr, rfl, hd, hSt, hsz, hold, hrow, hkp, hT⟩
    obtain ⟨j, rfl, h0', h1', h2', -⟩ := Tm.lit hT
    simp only at h0' h1' h2'
    simp only [List.range, List.range.loop, List.map_cons, List.map_nil, h0', h1', h2']
    clear h0' h1' h2' hT
    have M := hSt.mem
    have r0 := M.r0
    by_cases e : i < A.p.nth
    · obtain ⟨g, cap, hsl, hcell⟩ := row_at M.ths (show 0 < A.p.nth by omega)
      have cg : w1.cell? ⟨g, i, none⟩ = some (.pointer (some ⟨A.tb i, 0, none⟩)) := by
        rw [hcell i e (by simpa [GA.stf, GA.off] using e)]; simp [GA.stf, GA.off]
      rw [hsl] at r0
      have c13 := M.t13 (j := i) e
      have e1 : i < A.p.nth := e
      have e1' : (i : Int) < A.p.nth := by omega
      have e2 : 0 ≤ (i : Int) := by omega
      have hR0 : (A.off.stf f).R = A.R := rfl
      have htb : (A.off.stf f).tb i = A.tb i := rfl
      have hnn : (A.off.stf f).p.nth = A.p.nth := rfl
      rw [hR0, hnn] at r0
      rw [htb] at c13
      cases hl : (f i).lives with
      | false =>
        have hen : f i = .ended := by
          have hb := (M.born i).1 e
          have hb' : f i ≠ .unborn := by
            rcases hb with h | h
            · exact h
            · cases h
          cases h : f i with
          | unborn => exact absurd h hb'
          | ended => rfl
          | stands a => rw [h] at hl; cases hl
        have c13' : w1.cell? ⟨A.tb i, 13, none⟩ = some (.bool true) := by rw [c13]; simp [GA.stf, hen]
        clear c13
        replace M := Keep.mk M
        replace hSt := Keep.mk hSt
        replace hcell := Keep.mk hcell
        replace hsl := Keep.mk hsl
        replace hl := Keep.mk hl
        replace hen := Keep.mk hen
        replace hd := Keep.mk hd
        replace hi := Keep.mk hi
        replace hr := Keep.mk hr
        replace hsz := Keep.mk hsz
        replace hold := Keep.mk hold
        replace hrow := Keep.mk hrow
        replace hkp := Keep.mk hkp
        replace IH := Keep.mk IH
        replace e := Keep.mk e
        replace hR0 := Keep.mk hR0
        replace htb := Keep.mk htb
        replace hnn := Keep.mk hnn
        repeat (first
          | refine y_go rfl ?_
          | (refine y_region ?_; simp only [rg, Nat.reduceAdd, List.range, List.range.loop])
          | (refine y_nw rfl (by rfl) rfl (by exact nx rfl) (fun dd hS K hK => ?_); go_simp; refine hK _ _ _ ?_; clear hK K hS dd; simp only [recOf]; try walk_nrm)
          | (refine y_unwanted rfl (by rfl) ?_; try walk_nrm) | refine y_condT rfl ?_ | refine y_condF rfl ?_
          | refine y_block ?_ | refine y_label ?_ | refine y_ret ?_ | refine y_end ?_)
        replace hSt := Keep.out hSt
        replace hd := Keep.out hd
        replace hi := Keep.out hi
        replace hr := Keep.out hr
        replace hsz := Keep.out hsz
        replace hold := Keep.out hold
        replace hrow := Keep.out hrow
        replace hkp := Keep.out hkp
        replace IH := Keep.out IH
        replace e := Keep.out e
        replace hn64 := Keep.out hn64
        replace hl := Keep.out hl
        rw [wrap_small (by omega) (by omega), show (i : Int) + 1 = ((i + 1 : Nat) : Int) by omega]
        refine IH _ _ _ _ (by omega) ⟨i + 1, f, by omega, rfl, rfl, fun j hj => ?_, hSt, hsz, hold, hrow, hkp, ⟨rfl, rfl, rfl, rfl, rfl, trivial⟩⟩
        by_cases ej : j = i
        · subst ej; exact hl
        · exact hd j (by omega)
      | true =>
        have hne : f i ≠ .ended := fun h => by rw [h] at hl; cases hl
        have c13' : w1.cell? ⟨A.tb i, 13, none⟩ = some (.bool false) := by rw [c13]; simp [GA.stf, hne]
        have hgo0 := goes_stop (gm := gm) (os := os) (out := out) hSt e hl
        have hgo : CallsX (tokenJ Try.prog Fin) 173 #[.pointer (some ⟨A.tb i, 0, none⟩)] (cfgOf (A.off.stf f) none gs gm os out) w1 _ := hgo0
        have how := M.owns
        clear hgo0 c13
        replace hgo := Keep.mk hgo
        replace M := Keep.mk M
        replace hSt := Keep.mk hSt
        replace hcell := Keep.mk hcell
        replace hsl := Keep.mk hsl
        replace hl := Keep.mk hl
        replace hne := Keep.mk hne
        replace hd := Keep.mk hd
        replace hi := Keep.mk hi
        replace hr := Keep.mk hr
        replace hsz := Keep.mk hsz
        replace hold := Keep.mk hold
        replace hrow := Keep.mk hrow
        replace hkp := Keep.mk hkp
        replace IH := Keep.mk IH
        replace e := Keep.mk e
        replace hR0 := Keep.mk hR0
        replace htb := Keep.mk htb
        replace hnn := Keep.mk hnn
        replace how := Keep.mk how
        repeat (first
          | refine y_go rfl ?_
          | (refine y_region ?_; simp only [rg, Nat.reduceAdd, List.range, List.range.loop])
          | (refine y_nw rfl (by rfl) rfl (by exact nx rfl) (fun dd hS K hK => ?_); go_simp; refine hK _ _ _ ?_; clear hK K hS dd; simp only [recOf]; try walk_nrm)
          | (refine y_unwanted rfl (by rfl) ?_; try walk_nrm) | refine y_condT rfl ?_ | refine y_condF rfl ?_
          | refine y_block ?_ | refine y_label ?_ | refine y_ret ?_ | refine y_end ?_)
        refine y_callR rfl (by rfl) rfl rfl Try.func173 (by kernel_rfl) (by kernel_rfl) (hgo.out) (by simp only [List.map_toArray, List.map_cons, List.map_nil] <;> rfl) ?_
        rintro v σ'' w2 ⟨rfl, rfl, hS2, F2⟩
        replace hS2 := Keep.mk hS2
        replace F2 := Keep.mk F2
        walk_nrm
        repeat (first
          | refine y_go rfl ?_
          | (refine y_region ?_; simp only [rg, Nat.reduceAdd, List.range, List.range.loop])
          | (refine y_nw rfl (by rfl) rfl (by exact nx rfl) (fun dd hS K hK => ?_); go_simp; refine hK _ _ _ ?_; clear hK K hS dd; simp only [recOf]; try walk_nrm)
          | (refine y_unwanted rfl (by rfl) ?_; try walk_nrm) | refine y_condT rfl ?_ | refine y_condF rfl ?_
          | refine y_block ?_ | refine y_label ?_ | refine y_ret ?_ | refine y_end ?_)
        replace hS2 := Keep.out hS2
        replace F2 := Keep.out F2
        replace hd := Keep.out hd
        replace hi := Keep.out hi
        replace hr := Keep.out hr
        replace hsz := Keep.out hsz
        replace hold := Keep.out hold
        replace hrow := Keep.out hrow
        replace hkp := Keep.out hkp
        replace IH := Keep.out IH
        replace e := Keep.out e
        replace hn64 := Keep.out hn64
        replace hl := Keep.out hl
        replace how := Keep.out how
        replace M := Keep.out M
        rw [wrap_small (by omega) (by omega), show (i : Int) + 1 = ((i + 1 : Nat) : Int) by omega]
        obtain ⟨_, _, _, _, _, _, _, _, oj⟩ := how
        obtain ⟨o1, o2, o3, _⟩ := oj i e
        obtain ⟨kw, hkw⟩ := M.wkc i e
        obtain ⟨ks, hks⟩ := M.sdc i e
        refine IH _ _ _ _ (by omega) ⟨i + 1, setAt f i .ended, by omega, rfl, rfl, fun j hj => ?_, hS2, by rw [F2.size]; exact hsz, fun b hb ho => (F2.old b (fun h => ho (h ▸ o1)) (fun h => ho (h ▸ o2)) fun h => ho (h ▸ o3)).trans (hold b hb ho), row_later hrow fun k hk => ?_, fun b o hb => ?_, ⟨rfl, rfl, rfl, rfl, rfl, trivial⟩⟩
        · by_cases ej : j = i
          · subst ej; rw [setAt_same]; rfl
          · rw [setAt_ne _ _ ej]; exact hd j (by omega)
        · obtain ⟨_, _, cur, hcur⟩ := row_ty hrow hk
          exact F2.old k (ne_of_obj hcur (M.thr i e) (by simp [thrObj])) (ne_of_obj hcur hkw (by simp)) (ne_of_obj hcur hks (by simp))
        · have h1 := hkp b o hb
          have P := (Hk.out b o hb).2.1
          exact (F2.old b (ne_of_obj h1 (M.thr i e) fun e => (P.cells _ _ _ e).2.1 rfl) (ne_of_obj h1 hkw (P.chan _ _ _ _ _ _)) (ne_of_obj h1 hks (P.chan _ _ _ _ _ _))).trans h1
    · have hin : i = A.p.nth := by omega
      have e1 : ¬ (i < A.p.nth) := by omega
      obtain ⟨bo2, cp2, hsl⟩ := row_slice M.ths
      rw [hsl] at r0
      have hR0 : (A.off.stf f).R = A.R := rfl
      have hnn : (A.off.stf f).p.nth = A.p.nth := rfl
      rw [hR0, hnn] at r0
      clear IH hr
      replace M := Keep.mk M
      replace hSt := Keep.mk hSt
      replace hd := Keep.mk hd
      replace hi := Keep.mk hi
      replace hsz := Keep.mk hsz
      replace hold := Keep.mk hold
      replace hrow := Keep.mk hrow
      replace hkp := Keep.mk hkp
      replace hin := Keep.mk hin
      replace hR0 := Keep.mk hR0
      replace hnn := Keep.mk hnn
      replace hsl := Keep.mk hsl
      repeat (first
        | refine y_go rfl ?_
        | (refine y_region ?_; simp only [rg, Nat.reduceAdd, List.range, List.range.loop])
        | (refine y_nw rfl (by rfl) rfl (by exact nx rfl) (fun dd hS K hK => ?_); go_simp; refine hK _ _ _ ?_; clear hK K hS dd; simp only [recOf]; try walk_nrm)
        | (refine y_unwanted rfl (by rfl) ?_; try walk_nrm) | refine y_condT rfl ?_ | refine y_condF rfl ?_
        | refine y_block ?_ | refine y_label ?_ | refine y_ret ?_ | refine y_end ?_)
      refine y_leave rfl rfl Try.func174 (resultsC_tmp rfl _) ?_
      refine H.out _ _ _ ⟨f, rfl, fun j hj => hd.out j (by rw [hin.out]; exact hj), M.out, hsz.out, hold.out, hrow.out, hkp.out⟩
end
end Go.Proofs.Ytcibnfjpagmdaaa
