/- A run is told. -/
import Derived.Test.YtcibnfjpagmdaaaEnds
import Derived.Deep.Onto
set_option linter.unusedSimpArgs false
set_option linter.unusedVariables false
set_option maxRecDepth 100000
set_option maxHeartbeats 8000000
namespace Go.Proofs.Ytcibnfjpagmdaaa
open Go.TX Go.Conc Go.RowKit Go.MapKept

def GA.owning (A : GA) (own' : Nat → Prop) : GA := { A with own := own' }
section
variable {Fin : Machine → Trace → Prop} {C : Client} {m : Nat} {A : GA} {kap : Nat → C.K} {s : C.S} {gs : Nat → Goroutine} {gm : Goroutine} {os : Os} {out : Array (Nat × ByteArray)} {w : World} {kp : Nat → Option Obj}

/-- More blocks become main's own. -/
theorem Board.more {w2 : World} {own' : Nat → Prop} (B : Board Fin C m A kap s gs w) (B2 : Bigger w w2) (h1 : ∀ b, A.own b → own' b) (h2 : ∀ b, own' b → A.own b ∨ w.heap.size ≤ b) : Board Fin C m (A.owning own') kap s gs w2 :=
  ⟨(B.mem.grown B2.old).more h1, B.n0, B.on, C.stable B.inv B2.size fun b hb ho => ⟨B2.old b hb, fun h => (h2 b h).elim ho fun h => by omega⟩, B.pr⟩

/-- A report's block turns: the run stands. -/
theorem GMem.besideR {run : Option Nat} {w' : World} {b : Nat} {c : Array Value} (M : GMem A run w) (hb : w.heap[b]? = some (.cells c 43)) (other : ∀ d, d ≠ b → w'.heap[d]? = w.heap[d]?) : GMem A run w' := by
  have st : ∀ {d : Nat} {o : Obj}, w.heap[d]? = some o → (∀ x y, o ≠ .cells x 43 y) → w'.heap[d]? = some o := fun {d o} hd n1 => (other d (ne_of_obj hd hb (n1 _ _))).trans hd
  have row : ∀ {e : TypeId} {s : Nat} {v : Value} {n : Nat} {ys : List Value}, w.ownsRow 0 e s v n ys → e ≠ 43 → w'.ownsRow 0 e s v n ys := fun {e s v n ys} hr h1 => row_later hr fun k hk => by
    obtain ⟨_, _, cur, hcur⟩ := row_ty hr hk
    exact (st hcur (fun x y h => h1 (Obj.cells.inj h).2.1)).trans hcur.symm
  exact { runs := st M.runs (by simp [runObj]), mapo := st M.mapo (by simp), thr := fun i hi => st (M.thr i hi) (by simp [thrObj]), wkc := fun i hi => (M.wkc i hi).imp fun k hk => st hk (by simp), sdc := fun i hi => (M.sdc i hi).imp fun k hk => st hk (by simp), tcc := fun i hi => st (M.tcc i hi) (by simp), rcc := fun i hi => st (M.rcc i hi) (by simp), fcc := fun i hi => st (M.fcc i hi) (by simp), ths := row M.ths (by decide), logs := row M.logs (by decide), went := row M.went (by decide), ready := row M.ready (by decide), fell := row M.fell (by decide), cell := fun c hc => st (M.cell c hc).obj (by simp [cellObj]), cnc := M.cnc, cnd := M.cnd, stand := fun i a hi hr hs => ⟨(M.stand i a hi hr hs).1, (M.stand i a hi hr hs).2.1, (M.stand i a hi hr hs).2.2.1, (M.stand i a hi hr hs).2.2.2.1, fun h => st ((M.stand i a hi hr hs).2.2.2.2 h) (by simp)⟩, born := M.born, small := M.small, apart := M.apart, chans := M.chans, owns := M.owns }

theorem cfg_dead {f : Nat → Phase} (h : ∀ j, j < A.p.nth → (f j).lives = false) : cfgOf (A.off.stf f) none gs gm os out = { n := A.n0 + A.p.nth, h := 0, dl := 0, seat := fun _ => none, os := os, out := out } := by
  unfold cfgOf
  simp only [Cfg.mk.injEq, true_and, and_true]
  refine ⟨rfl, ?_⟩
  funext x
  unfold seatOf
  by_cases e : x = 0
  · simp [e]
  · rw [if_neg e, if_neg]
    rintro ⟨h1, h2, _, h4⟩
    have h5 : x - A.n0 < A.p.nth := by
      have : x < A.n0 + A.p.nth := h2
      have : A.n0 ≤ x := h1
      omega
    have := h _ h5
    have h6 : (f (x - A.n0)).lives = true := h4
    rw [this] at h6
    cases h6

def reportV (e : Nat) (p : Pub) (logv wentv readyv lv : Value) : Value := .agg #[.int .i8 e, .int .i64 p.went.length, logv, wentv, readyv, lv, .slice none 0 0]

/-- What a run has come to. -/
structure Told (A : GA) (w w' : World) (kp : Nat → Option Obj) (e : Nat) (v : Value) (f : Nat → Phase) (lv : Value) : Prop where
  val : v = reportV e A.p A.logv A.wentv A.readyv lv
  mem : GMem (A.off.stf f) none w'
  size : w.heap.size ≤ w'.heap.size
  old : ∀ b, b < w.heap.size → ¬ A.own b → w'.heap[b]? = w.heap[b]?
  row : w'.ownsRow w.heap.size 194 8 lv (lefts A.p).length (flatLog (lefts A.p))
  kept : ∀ b o, kp b = some o → w'.heap[b]? = some o

theorem report_calls {en : Nat} (B : Board Fin C m A kap s gs w) (Hk : Held kp A w) : CallsX (tokenJ Try.prog Fin) 123 #[.pointer (some ⟨A.R, 0, none⟩), .int .i8 en] (cfgOf A none gs gm os out) w fun v σ' w' =>
    σ' = { n := A.n0 + A.p.nth, h := 0, dl := 0, seat := fun _ => none, os := os, out := out } ∧ ∃ f lv, Told A w w' kp en v f lv := by
  refine callsX_body Try.func123 rfl fun c cs H HN => ?_
  simp only [Try.f123, Try.ntmps123, List.size_toArray, List.length_cons, List.length_nil, Nat.reduceAdd, Nat.reduceSub, Nat.zero_add, Array.replicate_succ, Array.replicate_zero, List.push_toArray, List.append_toArray, List.nil_append, List.cons_append, List.append_nil]
  have M := B.mem
  replace B := Keep.mk B
  replace Hk := Keep.mk Hk
  replace M := Keep.mk M
  replace H := Keep.mk H
  repeat (first | refine y_go rfl ?_ | (refine y_region ?_; simp only [rg, Nat.reduceAdd, List.range, List.range.loop]) | refine y_block ?_ | refine y_label ?_)
  (refine y_nw rfl (by rfl) rfl (by exact nx rfl) (fun dd hS K hK => ?_); go_simp; refine hK _ _ _ ?_; clear hK K hS dd; simp only [recOf]; try walk_nrm)
  obtain ⟨b4, hb4⟩ : ∃ b, b = w.heap.size := ⟨_, rfl⟩
  rw [← hb4]
  have N1 := newO w (.cells #[.int .i8 0, .int .i64 0, .slice none 0 0, .slice none 0 0, .slice none 0 0, .slice none 0 0, .slice none 0 0] 43)
  generalize w.alloc (.cells #[.int .i8 0, .int .i64 0, .slice none 0 0, .slice none 0 0, .slice none 0 0, .slice none 0 0, .slice none 0 0] 43) = w1 at N1 ⊢
  have hx1 := N1.is
  rw [← hb4] at hx1
  have z1 := N1.size
  have B1 : Bigger w w1 := ⟨by omega, N1.old⟩
  have hB := B.out.more (own' := fun b => A.own b ∨ b = b4) B1 (fun b h => .inl h) (fun b h => h.imp id fun h => by omega)
  have hK : Held (fun b => if b = b4 then some (.cells #[.int .i8 0, .int .i64 0, .slice none 0 0, .slice none 0 0, .slice none 0 0, .slice none 0 0, .slice none 0 0] 43) else kp b) (A.owning fun b => A.own b ∨ b = b4) w1 := fun b o h => by
    by_cases eb : b = b4
    · subst eb
      simp only [if_true, Option.some.injEq] at h
      subst h
      exact ⟨hx1, plain_cells (by decide), .inr rfl⟩
    · simp only [eb, if_false] at h
      obtain ⟨h1, h2, h3⟩ := Hk.out b o h
      exact ⟨B1.is h1, h2, .inl h3⟩
  have hen0 := ends_calls (gm := gm) (os := os) (out := out) hB hK
  have hen : CallsX (tokenJ Try.prog Fin) 174 #[.pointer (some ⟨A.R, 0, none⟩)] (cfgOf A none gs gm os out) w1 _ := hen0
  clear hen0
  replace hb4 := Keep.mk hb4
  replace N1 := Keep.mk N1
  replace hx1 := Keep.mk hx1
  replace z1 := Keep.mk z1
  replace B1 := Keep.mk B1
  replace hB := Keep.mk hB
  replace hK := Keep.mk hK
  replace hen := Keep.mk hen
  repeat (first
    | refine y_go rfl ?_
    | (refine y_region ?_; simp only [rg, Nat.reduceAdd, List.range, List.range.loop])
    | (refine y_nw rfl (by rfl) rfl (by exact nx rfl) (fun dd hS K hK => ?_); go_simp; refine hK _ _ _ ?_; clear hK K hS dd; simp only [recOf]; try walk_nrm)
    | (refine y_unwanted rfl (by rfl) ?_; try walk_nrm) | refine y_condT rfl ?_ | refine y_condF rfl ?_
    | refine y_block ?_ | refine y_label ?_ | refine y_ret ?_ | refine y_end ?_)
  refine y_callR rfl (by rfl) rfl rfl Try.func174 (by kernel_rfl) (by kernel_rfl) (hen.out) (by simp only [List.map_toArray, List.map_cons, List.map_nil] <;> rfl) ?_
  rintro v σ'' w2 ⟨f, hE⟩
  obtain ⟨hcfg, hdead, M2, hsz2, hold2, hrow2, hkept2⟩ := hE
  obtain ⟨bv, cv, rfl⟩ := row_slice hrow2
  have hcfg' : σ'' = { n := A.n0 + A.p.nth, h := 0, dl := 0, seat := fun _ => none, os := os, out := out } := hcfg.trans (cfg_dead hdead)
  subst hcfg'
  clear hcfg
  have hx2 : w2.heap[b4]? = _ := hkept2 b4 _ (if_pos rfl)
  have r5 := M2.r5
  have hfell := M2.fell
  obtain ⟨bo, cp, hfv⟩ := row_slice hfell
  rw [hfv] at r5
  have hn64 := M2.small.2.2.2
  have e1 : ((A.owning fun b => A.own b ∨ b = b4).off.stf f).R = A.R := rfl
  have e2 : ((A.owning fun b => A.own b ∨ b = b4).off.stf f).p.nth = A.p.nth := rfl
  rw [e1, e2] at r5
  replace hdead := Keep.mk hdead
  replace M2 := Keep.mk M2
  replace hsz2 := Keep.mk hsz2
  replace hold2 := Keep.mk hold2
  replace hrow2 := Keep.mk hrow2
  replace hkept2 := Keep.mk hkept2
  replace hx2 := Keep.mk hx2
  replace hfell := Keep.mk hfell
  replace hfv := Keep.mk hfv
  replace hn64 := Keep.mk hn64
  replace e1 := Keep.mk e1
  replace e2 := Keep.mk e2
  walk_nrm
  repeat (first
    | refine y_go rfl ?_
    | (refine y_region ?_; simp only [rg, Nat.reduceAdd, List.range, List.range.loop])
    | (refine y_nw rfl (by rfl) rfl (by exact nx rfl) (fun dd hS K hK => ?_); go_simp; refine hK _ _ _ ?_; clear hK K hS dd; simp only [recOf]; try walk_nrm)
    | (refine y_unwanted rfl (by rfl) ?_; try walk_nrm) | refine y_condT rfl ?_ | refine y_condF rfl ?_
    | refine y_block ?_ | refine y_label ?_ | refine y_ret ?_ | refine y_end ?_)
  refine y_loopI (fun r a σ' w' => σ' = { n := A.n0 + A.p.nth, h := 0, dl := 0, seat := fun _ => none, os := os, out := out } ∧ w' = w2 ∧ ∃ i : Nat, i ≤ A.p.nth ∧ r = A.p.nth - i ∧
      Tm a 48 [(0, .pointer (some ⟨A.R, 0, none⟩)), (1, .int .i8 en), (4, .pointer (some ⟨b4, 0, none⟩)), (5, .slice bv (lefts A.p).length cv), (6, .slice none 0 0), (14, .slice bo A.p.nth cp), (15, .int .i64 A.p.nth), (16, .int .i64 i)]) A.p.nth
    ⟨rfl, rfl, 0, Nat.zero_le _, rfl, ⟨rfl, rfl, rfl, rfl, rfl, rfl, rfl, rfl, rfl, rfl, trivial⟩⟩ ?_
  rintro r IH a σ w3 ⟨rfl, rfl, i, hi, hr, hT⟩
  obtain ⟨j, rfl, h0', h1', h2', h3', h4', h5', h6', h7', -⟩ := Tm.lit hT
  simp only at h0' h1' h2' h3' h4' h5' h6' h7'
  simp only [List.range, List.range.loop, List.map_cons, List.map_nil, h0', h1', h2', h3', h4', h5', h6', h7']
  clear h0' h1' h2' h3' h4' h5' h6' h7' hT
  by_cases e : i < A.p.nth
  · obtain ⟨g, cap, hsl, hcell⟩ := row_at hfell.out (show 0 < A.p.nth by omega)
    have hfv' := hfv.out.symm.trans hsl
    simp only [Value.slice.injEq] at hfv'
    obtain ⟨rfl, -, rfl⟩ := hfv'
    have cg : w3.cell? ⟨g, i, none⟩ = some (.bool false) := by
      rw [hcell i e (by simpa [GA.stf, GA.off, GA.owning] using e)]; simp
    have e3 : (i : Int) < A.p.nth := by omega
    have e4 : 0 ≤ (i : Int) := by omega
    replace hcell := Keep.mk hcell
    replace hsl := Keep.mk hsl
    replace hi := Keep.mk hi
    replace hr := Keep.mk hr
    replace e := Keep.mk e
    replace IH := Keep.mk IH
    repeat (first
      | refine y_go rfl ?_
      | (refine y_region ?_; simp only [rg, Nat.reduceAdd, List.range, List.range.loop])
      | (refine y_nw rfl (by rfl) rfl (by exact nx rfl) (fun dd hS K hK => ?_); go_simp; refine hK _ _ _ ?_; clear hK K hS dd; simp only [recOf]; try walk_nrm)
      | (refine y_unwanted rfl (by rfl) ?_; try walk_nrm) | refine y_condT rfl ?_ | refine y_condF rfl ?_
      | refine y_block ?_ | refine y_label ?_ | refine y_ret ?_ | refine y_end ?_)
    replace hi := Keep.out hi
    replace hr := Keep.out hr
    replace e := Keep.out e
    replace IH := Keep.out IH
    replace hn64 := Keep.out hn64
    replace e2 := Keep.out e2
    rw [e2] at hn64
    rw [wrap_small (by omega) (by omega), show (i : Int) + 1 = ((i + 1 : Nat) : Int) by omega]
    exact IH _ _ _ _ (by omega) ⟨rfl, rfl, i + 1, by omega, rfl, ⟨rfl, rfl, rfl, rfl, rfl, rfl, rfl, rfl, rfl, rfl, trivial⟩⟩
  · have e3 : ¬ ((i : Int) < A.p.nth) := by omega
    have q2 := M2.out.r2
    have q3 := M2.out.r3
    have q4 := M2.out.r4
    have f1 : ((A.owning fun b => A.own b ∨ b = b4).off.stf f).logv = A.logv := rfl
    have f2 : ((A.owning fun b => A.own b ∨ b = b4).off.stf f).wentv = A.wentv := rfl
    have f3 : ((A.owning fun b => A.own b ∨ b = b4).off.stf f).readyv = A.readyv := rfl
    rw [e1.out, f1] at q2
    rw [e1.out, f2] at q3
    rw [e1.out, f3] at q4
    obtain ⟨bw, cw, hwv⟩ := row_slice M2.out.went
    have hwv' : A.wentv = .slice bw A.p.went.length cw := hwv
    rw [hwv'] at q3
    obtain ⟨bl, cl, hlv⟩ := row_slice M2.out.logs
    have hlv' : A.logv = .slice bl A.p.log.length cl := hlv
    rw [hlv'] at q2
    obtain ⟨by_, cy, hyv⟩ := row_slice M2.out.ready
    have hyv' : A.readyv = .slice by_ A.p.ready.length cy := hyv
    rw [hyv'] at q4
    clear IH hr hwv f1 f2 f3 hlv hyv
    replace hi := Keep.mk hi
    replace hwv' := Keep.mk hwv'
    replace hlv' := Keep.mk hlv'
    replace hyv' := Keep.mk hyv'
    repeat (first
      | refine y_go rfl ?_
      | (refine y_region ?_; simp only [rg, Nat.reduceAdd, List.range, List.range.loop])
      | (refine y_nw rfl (by rfl) rfl (by exact nx rfl) (fun dd hS K hK => ?_); go_simp; refine hK _ _ _ ?_; clear hK K hS dd; simp only [recOf]; try walk_nrm)
      | (refine y_unwanted rfl (by rfl) ?_; try walk_nrm) | refine y_condT rfl ?_ | refine y_condF rfl ?_
      | refine y_block ?_ | refine y_label ?_ | refine y_ret ?_ | refine y_end ?_)
    refine y_drawnQ (fun _ w' => w'.cell? ⟨A.R, 2, none⟩ = some (.slice bl A.p.log.length cl) ∧ w'.cell? ⟨A.R, 3, none⟩ = some (.slice bw A.p.went.length cw) ∧ w'.cell? ⟨A.R, 4, none⟩ = some (.slice by_ A.p.ready.length cy)) (fun i => i == 21) (by kernel_rfl) rfl ?_
    simp only [List.size_toArray, List.length_cons, List.length_nil, Nat.reduceAdd, Nat.reduceSub, Nat.zero_add, Array.replicate_succ, Array.replicate_zero, List.push_toArray, List.append_toArray, List.nil_append, List.cons_append, List.append_nil]
    first | (apply anyX_tW (i := 0) rfl; (focus rfl); (focus (exact nx rfl)); (focus (rintro σ' w' ⟨s0, s1, s2⟩ d K hK; go_simp; exact hK)); (focus kernel_rfl); (focus (exact ⟨q2, q3, q4⟩))) | (refine anyX_tU (i := 0) rfl rfl (by kernel_rfl) (by exact ⟨q2, q3, q4⟩) ?_)
    try walk_nrm
    first | (apply anyX_tW (i := 1) rfl; (focus rfl); (focus (exact nx rfl)); (focus (rintro σ' w' ⟨s0, s1, s2⟩ d K hK; go_simp; exact hK)); (focus kernel_rfl); (focus (exact ⟨q2, q3, q4⟩))) | (refine anyX_tU (i := 1) rfl rfl (by kernel_rfl) (by exact ⟨q2, q3, q4⟩) ?_)
    try walk_nrm
    first | (apply anyX_tW (i := 2) rfl; (focus rfl); (focus (exact nx rfl)); (focus (rintro σ' w' ⟨s0, s1, s2⟩ d K hK; go_simp; exact hK)); (focus kernel_rfl); (focus (exact ⟨q2, q3, q4⟩))) | (refine anyX_tU (i := 2) rfl rfl (by kernel_rfl) (by exact ⟨q2, q3, q4⟩) ?_)
    try walk_nrm
    first | (apply anyX_tW (i := 3) rfl; (focus rfl); (focus (exact nx rfl)); (focus (rintro σ' w' ⟨s0, s1, s2⟩ d K hK; go_simp; exact hK)); (focus kernel_rfl); (focus (exact ⟨q2, q3, q4⟩))) | (refine anyX_tU (i := 3) rfl rfl (by kernel_rfl) (by exact ⟨q2, q3, q4⟩) ?_)
    try walk_nrm
    first | (apply anyX_tW (i := 4) rfl; (focus rfl); (focus (exact nx rfl)); (focus (rintro σ' w' ⟨s0, s1, s2⟩ d K hK; go_simp; exact hK)); (focus kernel_rfl); (focus (exact ⟨q2, q3, q4⟩))) | (refine anyX_tU (i := 4) rfl rfl (by kernel_rfl) (by exact ⟨q2, q3, q4⟩) ?_)
    try walk_nrm
    first | (apply anyX_tW (i := 5) rfl; (focus rfl); (focus (exact nx rfl)); (focus (rintro σ' w' ⟨s0, s1, s2⟩ d K hK; go_simp; exact hK)); (focus kernel_rfl); (focus (exact ⟨q2, q3, q4⟩))) | (refine anyX_tU (i := 5) rfl rfl (by kernel_rfl) (by exact ⟨q2, q3, q4⟩) ?_)
    try walk_nrm
    first | (apply anyX_tW (i := 6) rfl; (focus rfl); (focus (exact nx rfl)); (focus (rintro σ' w' ⟨s0, s1, s2⟩ d K hK; go_simp; exact hK)); (focus kernel_rfl); (focus (exact ⟨q2, q3, q4⟩))) | (refine anyX_tU (i := 6) rfl rfl (by kernel_rfl) (by exact ⟨q2, q3, q4⟩) ?_)
    try walk_nrm
    first | (apply anyX_tW (i := 7) rfl; (focus rfl); (focus (exact nx rfl)); (focus (rintro σ' w' ⟨s0, s1, s2⟩ d K hK; go_simp; exact hK)); (focus kernel_rfl); (focus (exact ⟨q2, q3, q4⟩))) | (refine anyX_tU (i := 7) rfl rfl (by kernel_rfl) (by exact ⟨q2, q3, q4⟩) ?_)
    try walk_nrm
    first | (apply anyX_tW (i := 8) rfl; (focus rfl); (focus (exact nx rfl)); (focus (rintro σ' w' ⟨s0, s1, s2⟩ d K hK; go_simp; exact hK)); (focus kernel_rfl); (focus (exact ⟨q2, q3, q4⟩))) | (refine anyX_tU (i := 8) rfl rfl (by kernel_rfl) (by exact ⟨q2, q3, q4⟩) ?_)
    try walk_nrm
    first | (apply anyX_tW (i := 9) rfl; (focus rfl); (focus (exact nx rfl)); (focus (rintro σ' w' ⟨s0, s1, s2⟩ d K hK; go_simp; exact hK)); (focus kernel_rfl); (focus (exact ⟨q2, q3, q4⟩))) | (refine anyX_tU (i := 9) rfl rfl (by kernel_rfl) (by exact ⟨q2, q3, q4⟩) ?_)
    try walk_nrm
    first | (apply anyX_tW (i := 10) rfl; (focus rfl); (focus (exact nx rfl)); (focus (rintro σ' w' ⟨s0, s1, s2⟩ d K hK; go_simp; exact hK)); (focus kernel_rfl); (focus (exact ⟨q2, q3, q4⟩))) | (refine anyX_tU (i := 10) rfl rfl (by kernel_rfl) (by exact ⟨q2, q3, q4⟩) ?_)
    try walk_nrm
    first | (apply anyX_tW (i := 11) rfl; (focus rfl); (focus (exact nx rfl)); (focus (rintro σ' w' ⟨s0, s1, s2⟩ d K hK; go_simp; exact hK)); (focus kernel_rfl); (focus (exact ⟨q2, q3, q4⟩))) | (refine anyX_tU (i := 11) rfl rfl (by kernel_rfl) (by exact ⟨q2, q3, q4⟩) ?_)
    try walk_nrm
    first | (apply anyX_tW (i := 12) rfl; (focus rfl); (focus (exact nx rfl)); (focus (rintro σ' w' ⟨s0, s1, s2⟩ d K hK; go_simp; exact hK)); (focus kernel_rfl); (focus (exact ⟨q2, q3, q4⟩))) | (refine anyX_tU (i := 12) rfl rfl (by kernel_rfl) (by exact ⟨q2, q3, q4⟩) ?_)
    try walk_nrm
    first | (apply anyX_tW (i := 13) rfl; (focus rfl); (focus (exact nx rfl)); (focus (rintro σ' w' ⟨s0, s1, s2⟩ d K hK; go_simp; exact hK)); (focus kernel_rfl); (focus (exact ⟨q2, q3, q4⟩))) | (refine anyX_tU (i := 13) rfl rfl (by kernel_rfl) (by exact ⟨q2, q3, q4⟩) ?_)
    try walk_nrm
    first | (apply anyX_tW (i := 14) rfl; (focus rfl); (focus (exact nx rfl)); (focus (rintro σ' w' ⟨s0, s1, s2⟩ d K hK; go_simp; exact hK)); (focus kernel_rfl); (focus (exact ⟨q2, q3, q4⟩))) | (refine anyX_tU (i := 14) rfl rfl (by kernel_rfl) (by exact ⟨q2, q3, q4⟩) ?_)
    try walk_nrm
    first | (apply anyX_tW (i := 15) rfl; (focus rfl); (focus (exact nx rfl)); (focus (rintro σ' w' ⟨s0, s1, s2⟩ d K hK; go_simp; exact hK)); (focus kernel_rfl); (focus (exact ⟨q2, q3, q4⟩))) | (refine anyX_tU (i := 15) rfl rfl (by kernel_rfl) (by exact ⟨q2, q3, q4⟩) ?_)
    try walk_nrm
    first | (apply anyX_tW (i := 16) rfl; (focus rfl); (focus (exact nx rfl)); (focus (rintro σ' w' ⟨s0, s1, s2⟩ d K hK; go_simp; exact hK)); (focus kernel_rfl); (focus (exact ⟨q2, q3, q4⟩))) | (refine anyX_tU (i := 16) rfl rfl (by kernel_rfl) (by exact ⟨q2, q3, q4⟩) ?_)
    try walk_nrm
    first | (apply anyX_tW (i := 17) rfl; (focus rfl); (focus (exact nx rfl)); (focus (rintro σ' w' ⟨s0, s1, s2⟩ d K hK; go_simp; exact hK)); (focus kernel_rfl); (focus (exact ⟨q2, q3, q4⟩))) | (refine anyX_tU (i := 17) rfl rfl (by kernel_rfl) (by exact ⟨q2, q3, q4⟩) ?_)
    try walk_nrm
    first | (apply anyX_tW (i := 18) rfl; (focus rfl); (focus (exact nx rfl)); (focus (rintro σ' w' ⟨s0, s1, s2⟩ d K hK; go_simp; exact hK)); (focus kernel_rfl); (focus (exact ⟨q2, q3, q4⟩))) | (refine anyX_tU (i := 18) rfl rfl (by kernel_rfl) (by exact ⟨q2, q3, q4⟩) ?_)
    try walk_nrm
    first | (apply anyX_tW (i := 19) rfl; (focus rfl); (focus (exact nx rfl)); (focus (rintro σ' w' ⟨s0, s1, s2⟩ d K hK; go_simp; exact hK)); (focus kernel_rfl); (focus (exact ⟨q2, q3, q4⟩))) | (refine anyX_tU (i := 19) rfl rfl (by kernel_rfl) (by exact ⟨q2, q3, q4⟩) ?_)
    try walk_nrm
    first | (apply anyX_tW (i := 20) rfl; (focus rfl); (focus (exact nx rfl)); (focus (rintro σ' w' ⟨s0, s1, s2⟩ d K hK; go_simp; exact hK)); (focus kernel_rfl); (focus (exact ⟨q2, q3, q4⟩))) | (refine anyX_tU (i := 20) rfl rfl (by kernel_rfl) (by exact ⟨q2, q3, q4⟩) ?_)
    try walk_nrm
    refine anyX_one (i := 21) (by kernel_rfl) (opX_storeC (vs := #[.int .i8 en, .int .i64 A.p.went.length, .slice bl A.p.log.length cl, .slice bw A.p.went.length cw, .slice by_ A.p.ready.length cy, .slice bv (lefts A.p).length cv, .slice none 0 0]) rfl (by rfl) rfl rfl rfl rfl hx2.out (by first | kernel_rfl | rfl) (Nat.le_of_ble_eq_true rfl) (by simp [Value.oneCell']) (Cfg.Free.cells (free_noseat rfl)) (fun w4 S4 => ?_))
    refine ⟨fun h => absurd h (by simp), ?_⟩
    try walk_nrm
    refine anyX_end (by kernel_rfl) ?_
    have hx4 : w4.heap[b4]? = some (.cells #[.int .i8 en, .int .i64 A.p.went.length, .slice bl A.p.log.length cl, .slice bw A.p.went.length cw, .slice by_ A.p.ready.length cy, .slice bv (lefts A.p).length cv, .slice none 0 0] 43) := S4.is
    have a0 : w4.cell? ⟨b4, 0, none⟩ = some (.int .i8 en) := by unfold World.cell?; rw [hx4]; rfl
    have a1 : w4.cell? ⟨b4, 1, none⟩ = some (.int .i64 A.p.went.length) := by unfold World.cell?; rw [hx4]; rfl
    have a2 : w4.cell? ⟨b4, 2, none⟩ = some (.slice bl A.p.log.length cl) := by unfold World.cell?; rw [hx4]; rfl
    have a3 : w4.cell? ⟨b4, 3, none⟩ = some (.slice bw A.p.went.length cw) := by unfold World.cell?; rw [hx4]; rfl
    have a4 : w4.cell? ⟨b4, 4, none⟩ = some (.slice by_ A.p.ready.length cy) := by unfold World.cell?; rw [hx4]; rfl
    have a5 : w4.cell? ⟨b4, 5, none⟩ = some (.slice bv (lefts A.p).length cv) := by unfold World.cell?; rw [hx4]; rfl
    have a6 : w4.cell? ⟨b4, 6, none⟩ = some (.slice none 0 0) := by unfold World.cell?; rw [hx4]; rfl
    clear q2 q3 q4
    replace S4 := Keep.mk S4
    replace hx4 := Keep.mk hx4
    repeat (first
      | refine y_go rfl ?_
      | (refine y_region ?_; simp only [rg, Nat.reduceAdd, List.range, List.range.loop])
      | (refine y_nw rfl (by rfl) rfl (by exact nx rfl) (fun dd hS K hK => ?_); go_simp; refine hK _ _ _ ?_; clear hK K hS dd; simp only [recOf]; try walk_nrm)
      | (refine y_unwanted rfl (by rfl) ?_; try walk_nrm) | refine y_condT rfl ?_ | refine y_condF rfl ?_
      | refine y_block ?_ | refine y_label ?_ | refine y_ret ?_ | refine y_end ?_)
    refine y_leaveC (v := reportV en A.p (.slice bl A.p.log.length cl) (.slice bw A.p.went.length cw) (.slice by_ A.p.ready.length cy) (.slice bv (lefts A.p).length cv)) rfl rfl Try.func123 (fun d => ?_) ?_
    · unfold results reportV
      go_simp
    · obtain ⟨o0, o1, o2, o3, o4, o5, o6, o7, oj⟩ := M.out.owns
      have M3 : GMem (A.off.stf f) none w3 := { runs := M2.out.runs, mapo := M2.out.mapo, thr := M2.out.thr, wkc := M2.out.wkc, sdc := M2.out.sdc, tcc := M2.out.tcc, rcc := M2.out.rcc, fcc := M2.out.fcc, ths := M2.out.ths, logs := M2.out.logs, went := M2.out.went, ready := M2.out.ready, fell := M2.out.fell, cell := M2.out.cell, cnc := M2.out.cnc, cnd := M2.out.cnd, stand := M2.out.stand, born := M2.out.born, small := M2.out.small, apart := M2.out.apart, chans := M2.out.chans, owns := ⟨o0, o1, o2, o3, o4, o5, o6, o7, fun j hj => ⟨(oj j hj).1, (oj j hj).2.1, (oj j hj).2.2.1, (oj j hj).2.2.2.1, (oj j hj).2.2.2.2.1, (oj j hj).2.2.2.2.2.1, fun a _ hs => by
        have h1 := hdead.out j hj
        have h2 : f j = .stands a := hs
        rw [h2] at h1
        cases h1⟩⟩ }
      have hz1 := z1.out
      have hz2 := hsz2.out
      have hb4' := hb4.out
      refine H.out _ _ _ ⟨rfl, f, _, ⟨by rw [hlv'.out, hwv'.out, hyv'.out], M3.besideR hx2.out S4.out.other, by rw [S4.out.size]; omega, fun b hb ho => ?_, ?_, fun b o hb => ?_⟩⟩
      · have hne : b ≠ b4 := by omega
        exact (S4.out.other b hne).trans ((hold2.out b (by omega) fun h => h.elim ho hne).trans (B1.out.old b hb))
      · have h := row_later hrow2.out fun k hk => S4.out.other k fun e => by
          obtain ⟨_, _, cur, hcur⟩ := row_ty hrow2.out hk
          exact ne_of_obj hcur hx2.out (by simp) e
        exact h.mono (by omega)
      · obtain ⟨h1, _⟩ := Hk.out b o hb
        have hne : b ≠ b4 := fun e => by have := lt_of_get h1; omega
        exact (S4.out.other b hne).trans (hkept2.out b o (by rw [if_neg hne]; exact hb))
end
end Go.Proofs.Ytcibnfjpagmdaaa
