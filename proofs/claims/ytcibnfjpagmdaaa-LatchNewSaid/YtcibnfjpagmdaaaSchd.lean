/- The schedule by picks, as the program has it. -/
import Derived.Test.YtcibnfjpagmdaaaAble
set_option linter.unusedSimpArgs false
set_option linter.unusedVariables false
set_option maxRecDepth 100000
set_option maxHeartbeats 2000000
namespace Go.Proofs.Ytcibnfjpagmdaaa
open Go.TX Go.Conc Go.RowKit Go.MapKept

theorem tmod_bounds (x : Int) {n : Nat} (h : 0 < n) : -(n : Int) < Int.tmod x n ∧ Int.tmod x n < n := by
  have h1 := Int.tmod_lt_of_pos x (show (0 : Int) < n by omega)
  have h2 : -(n : Int) < Int.tmod x n := by
    have := Int.tmod_lt_of_pos (-x) (show (0 : Int) < n by omega)
    rw [Int.neg_tmod] at this
    omega
  exact ⟨h2, h1⟩
theorem pick_mod (x : Int) {n : Nat} (h : 0 < n) (h64 : n ≤ 64) : Int.tmod (IntKind.i64.wrap (Int.tmod x n + n)) n = ((x % (n : Int)).toNat : Int) := by
  obtain ⟨h1, h2⟩ := tmod_bounds x h
  rw [wrap_small (x := Int.tmod x n + n) (by omega) (by omega), Int.tmod_eq_emod_of_nonneg (by omega), Int.add_emod_right]
  have e : Int.tmod x n % (n : Int) = x % n := by
    rw [Int.tmod_eq_emod]
    split
    · simp
    · rw [Int.sub_emod]; simp
  rw [e]
  have h3 := Int.emod_nonneg x (show (n : Int) ≠ 0 by omega)
  omega

section
variable {J : Judge Try.prog} {σ : Cfg} {w : World} {A : GA}

/-- A slice of whole numbers, as it is read. -/
def IntRow (w : World) (bo : Option Addr) (l : List Int) : Prop := ∀ x (hx : x < l.length), ∃ ad, bo = some ad ∧ w.cell? (ad.add x) = some (.int .i64 l[x])
def Small64 (l : List Int) : Prop := ∀ x ∈ l, -9223372036854775808 ≤ x ∧ x ≤ 9223372036854775807

theorem row_at {base : Nat} {e : TypeId} {v : Value} {n : Nat} {xs : List Value} (h : w.ownsRow base e 1 v n xs) (hn : 0 < n) : ∃ g cap, v = .slice (some ⟨g, 0, none⟩) n cap ∧ ∀ i (hi : i < n) (hx : i < xs.length), w.cell? ⟨g, i, none⟩ = some xs[i] := by
  rcases h.2 with ⟨_, h0⟩ | ⟨g, cap, cur, rfl, _⟩
  · omega
  · exact ⟨g, cap, rfl, fun i hi hx => by rw [h.cellAt i (by omega), List.getElem?_eq_getElem hx]⟩

theorem sched_calls (M : GMem A none w) {L : List Nat} {lv : Value} {base pc rc cp : Nat} {bo : Option Addr} {picks : List Int} (hL : L ≠ []) (hlen : L.length ≤ 64) (hLn : ∀ j ∈ L, j < A.p.nth) (own : w.ownsRow base 33 1 lv L.length (thrPtrs A L))
    (cpk : w.cell? ⟨pc, 0, none⟩ = some (.slice bo picks.length cp)) (crr : w.cell? ⟨rc, 0, none⟩ = some (.pointer (some ⟨A.R, 0, none⟩))) (hpk : IntRow w bo picks) (hps : Small64 picks) :
    CallsX J 122 #[.int .i64 A.p.went.length, lv, .pointer (some ⟨pc, 0, none⟩), .pointer (some ⟨rc, 0, none⟩)] σ w fun v σ' w' => v = .pointer (some ⟨A.tb (whoGoes picks A.p.went L), 0, none⟩) ∧ σ' = σ ∧ w' = w := by
  have hpos : 0 < L.length := List.length_pos_iff.2 hL
  obtain ⟨g, cap, rfl, hcell⟩ := row_at own hpos
  have hcell' : ∀ i (hi : i < L.length), w.cell? ⟨g, i, none⟩ = some (.pointer (some ⟨A.tb L[i], 0, none⟩)) := fun i hi => by
    rw [hcell i hi (by simpa [thrPtrs] using hi)]; simp [thrPtrs]
  have hw64 := M.small.2.1
  clear own
  by_cases hlt : A.p.went.length < picks.length
  · obtain ⟨ad, rfl, hx⟩ := hpk _ hlt
    have e1 : (A.p.went.length : Int) < picks.length := by omega
    have e2 : 0 ≤ (A.p.went.length : Int) := by omega
    have hxs := hps _ (List.getElem_mem hlt)
    have hch : whoGoes picks A.p.went L = L.getD (picks[A.p.went.length] % (L.length : Int)).toNat 0 := by
      unfold whoGoes; rw [List.getElem?_eq_getElem hlt]
    generalize picks[A.p.went.length] = x at hx hxs hch
    have hk := pick_mod x hpos hlen
    have hk2 : (x % (L.length : Int)).toNat < L.length := by
      have h3 := Int.emod_nonneg x (show (L.length : Int) ≠ 0 by omega)
      have h4 := Int.emod_lt_of_pos x (show (0 : Int) < L.length by omega)
      omega
    generalize (x % (L.length : Int)).toNat = k at hk hk2 hch
    rw [hch, List.getD_eq_getElem?_getD, List.getElem?_eq_getElem hk2, Option.getD_some]
    have hck := hcell' k hk2
    generalize A.tb L[k] = r at hck
    have hn0 : ¬ ((L.length : Int) = 0) := by omega
    have e3 : (k : Int) < L.length := by omega
    refine callsX_body Try.func122 rfl fun c cs H HN => ?_
    simp only [Try.f122, Try.ntmps122, List.size_toArray, List.length_cons, List.length_nil, Nat.reduceAdd, Nat.reduceSub, Nat.zero_add, Array.replicate_succ, Array.replicate_zero, List.push_toArray, List.append_toArray, List.nil_append, List.cons_append, List.append_nil]
    replace H := Keep.mk H
    replace M := Keep.mk M
    replace hck := Keep.mk hck
    replace hk := Keep.mk hk
    replace hlen := Keep.mk hlen
    replace hps := Keep.mk hps
    replace hxs := Keep.mk hxs
    replace hch := Keep.mk hch
    replace hLn := Keep.mk hLn
    replace hcell := Keep.mk hcell
    replace hcell' := Keep.mk hcell'
    replace hw64 := Keep.mk hw64
    replace hk2 := Keep.mk hk2
    replace hpos := Keep.mk hpos
    repeat (first
      | refine y_go rfl ?_
      | (refine y_region ?_; simp only [rg, Nat.reduceAdd, List.range, List.range.loop])
      | (refine y_nw rfl (by rfl) rfl (by exact nx rfl) (fun dd hS K hK => ?_); go_simp; refine hK _ _ _ ?_; clear hK K hS dd; simp only [recOf]; try walk_nrm)
      | (refine y_unwanted rfl (by rfl) ?_; try walk_nrm) | refine y_condT rfl ?_ | refine y_condF rfl ?_
      | refine y_block ?_ | refine y_label ?_ | refine y_ret ?_ | refine y_end ?_)
    rw [hk.out]
    replace hck := Keep.out hck
    have e4 : 0 ≤ (k : Int) := by omega
    repeat (first
      | refine y_go rfl ?_
      | (refine y_region ?_; simp only [rg, Nat.reduceAdd, List.range, List.range.loop])
      | (refine y_nw rfl (by rfl) rfl (by exact nx rfl) (fun dd hS K hK => ?_); go_simp; refine hK _ _ _ ?_; clear hK K hS dd; simp only [recOf]; try walk_nrm)
      | (refine y_unwanted rfl (by rfl) ?_; try walk_nrm) | refine y_condT rfl ?_ | refine y_condF rfl ?_
      | refine y_block ?_ | refine y_label ?_ | refine y_ret ?_ | refine y_end ?_)
    refine y_leave rfl rfl Try.func122 (resultsC_tmp rfl _) ?_
    exact H.out _ _ _ ⟨rfl, rfl, rfl⟩
  · have hch : whoGoes picks A.p.went L = behindmost L (lastOf A.p.went) := by
      unfold whoGoes; rw [List.getElem?_eq_none (by omega)]
    have e1 : ¬ ((A.p.went.length : Int) < picks.length) := by omega
    rw [hch]
    generalize hlast : lastOf A.p.went = last
    have hnum : ∀ i (hi : i < L.length), w.cell? ⟨A.tb L[i], 1, none⟩ = some (.int .i64 L[i]) := fun i hi => M.t1 (hLn _ (List.getElem_mem hi))
    refine callsX_body Try.func122 rfl fun c cs H HN => ?_
    simp only [Try.f122, Try.ntmps122, List.size_toArray, List.length_cons, List.length_nil, Nat.reduceAdd, Nat.reduceSub, Nat.zero_add, Array.replicate_succ, Array.replicate_zero, List.push_toArray, List.append_toArray, List.nil_append, List.cons_append, List.append_nil]
    replace H := Keep.mk H
    replace hlen := Keep.mk hlen
    replace hps := Keep.mk hps
    replace hcell := Keep.mk hcell
    replace hcell' := Keep.mk hcell'
    replace hw64 := Keep.mk hw64
    replace hpos := Keep.mk hpos
    replace hch := Keep.mk hch
    replace hLn := Keep.mk hLn
    replace hlast := Keep.mk hlast
    replace hnum := Keep.mk hnum
    cases hw : A.p.went.getLast? with
    | none =>
      have h0 : A.p.went = [] := List.getLast?_eq_none_iff.1 hw
      have hl2 : last = -1 := by rw [← hlast.out]; unfold lastOf; rw [hw]
      have e2 : ¬ (0 < A.p.went.length) := by rw [h0]; simp
      subst hl2
      replace hw := Keep.mk hw
      replace h0 := Keep.mk h0
      replace M := Keep.mk M
      repeat (first
        | refine y_go rfl ?_
        | (refine y_region ?_; simp only [rg, Nat.reduceAdd, List.range, List.range.loop])
        | (refine y_nw rfl (by rfl) rfl (by exact nx rfl) (fun dd hS K hK => ?_); go_simp; refine hK _ _ _ ?_; clear hK K hS dd; simp only [recOf]; try walk_nrm)
        | (refine y_unwanted rfl (by rfl) ?_; try walk_nrm) | refine y_condT rfl ?_ | refine y_condF rfl ?_
        | refine y_block ?_ | refine y_label ?_ | refine y_ret ?_ | refine y_end ?_)
      refine y_loopI (fun r a σ' w' => σ' = σ ∧ w' = w ∧ ∃ i : Nat, i ≤ L.length ∧ r = L.length - i ∧ (∀ x (hx : x < i) (hL : x < L.length), ¬ ((-1 : Int) < (L[x] : Int))) ∧
          Tm a 57 [(1, .slice (some ⟨g, 0, none⟩) L.length cap), (7, .int .i64 (-1 : Int)), (40, .slice (some ⟨g, 0, none⟩) L.length cap), (41, .int .i64 L.length), (42, .int .i64 i)]) L.length
        ⟨rfl, rfl, 0, Nat.zero_le _, rfl, fun x hx => absurd hx (Nat.not_lt_zero x), ⟨rfl, rfl, rfl, rfl, rfl, rfl, rfl, trivial⟩⟩ ?_
      rintro r IH a σ w1 ⟨rfl, rfl, i, hi, hr, hno, hT⟩
      obtain ⟨j, rfl, h0', h1', h2', h3', h4', -⟩ := Tm.lit hT
      simp only at h0' h1' h2' h3' h4'
      simp only [List.range, List.range.loop, List.map_cons, List.map_nil, h0', h1', h2', h3', h4']
      clear h0' h1' h2' h3' h4' hT
      by_cases e : i < L.length
      · have c1 := hcell'.out i e
        have c2 := hnum.out i e
        have e2 : (i : Int) < L.length := by omega
        have e3 : 0 ≤ (i : Int) := by omega
        by_cases e4 : (-1 : Int) < (L[i] : Int)
        · have hb : behindmost L (-1 : Int) = L[i] := by
            unfold behindmost
            have hf : L.find? (fun j : Nat => decide ((-1 : Int) < (j : Int))) = some L[i] := by
              rw [List.find?_eq_some_iff_getElem]
              refine ⟨by simpa using e4, i, e, rfl, fun k hk => ?_⟩
              have := hno k hk (by omega)
              simpa using this
            rw [hf]
          replace e := Keep.mk e
          replace IH := Keep.mk IH
          replace hno := Keep.mk hno
          replace hb := Keep.mk hb
          replace hr := Keep.mk hr
          replace hi := Keep.mk hi
          repeat (first
            | refine y_go rfl ?_
            | (refine y_region ?_; simp only [rg, Nat.reduceAdd, List.range, List.range.loop])
            | (refine y_nw rfl (by rfl) rfl (by exact nx rfl) (fun dd hS K hK => ?_); go_simp; refine hK _ _ _ ?_; clear hK K hS dd; simp only [recOf]; try walk_nrm)
            | (refine y_unwanted rfl (by rfl) ?_; try walk_nrm) | refine y_condT rfl ?_ | refine y_condF rfl ?_
            | refine y_block ?_ | refine y_label ?_ | refine y_ret ?_ | refine y_end ?_)
          refine y_leave rfl rfl Try.func122 (resultsC_tmp rfl _) ?_
          exact H.out _ _ _ ⟨by rw [hb.out]; rfl, rfl, rfl⟩
        · replace e := Keep.mk e
          replace IH := Keep.mk IH
          replace hno := Keep.mk hno
          replace hr := Keep.mk hr
          replace hi := Keep.mk hi
          repeat (first
            | refine y_go rfl ?_
            | (refine y_region ?_; simp only [rg, Nat.reduceAdd, List.range, List.range.loop])
            | (refine y_nw rfl (by rfl) rfl (by exact nx rfl) (fun dd hS K hK => ?_); go_simp; refine hK _ _ _ ?_; clear hK K hS dd; simp only [recOf]; try walk_nrm)
            | (refine y_unwanted rfl (by rfl) ?_; try walk_nrm) | refine y_condT rfl ?_ | refine y_condF rfl ?_
            | refine y_block ?_ | refine y_label ?_ | refine y_ret ?_ | refine y_end ?_)
          replace e := Keep.out e
          replace IH := Keep.out IH
          replace hno := Keep.out hno
          replace hr := Keep.out hr
          replace hi := Keep.out hi
          replace hlen := Keep.out hlen
          rw [wrap_small (by omega) (by omega), show (i : Int) + 1 = ((i + 1 : Nat) : Int) by omega]
          refine IH _ _ _ _ (by omega) ⟨rfl, rfl, i + 1, by omega, rfl, fun x hx hL' => ?_, ⟨rfl, rfl, rfl, rfl, rfl, rfl, rfl, trivial⟩⟩
          by_cases ex : x = i
          · subst ex; exact e4
          · exact hno x (by omega) hL'
      · have hb : behindmost L (-1 : Int) = L[0]'hpos.out := by
          unfold behindmost
          have hf : L.find? (fun j : Nat => decide ((-1 : Int) < (j : Int))) = none := by
            rw [List.find?_eq_none]
            intro x hx
            obtain ⟨k, hk, rfl⟩ := List.mem_iff_getElem.1 hx
            have := hno k (by omega) hk
            simpa using this
          rw [hf]
          cases L with
          | nil => exact absurd rfl hL
          | cons a l => rfl
        have c0 := hcell'.out 0 hpos.out
        have e2 : ¬ ((i : Int) < L.length) := by omega
        have e5 : 0 < L.length := hpos.out
        replace IH := Keep.mk IH
        replace hno := Keep.mk hno
        replace hr := Keep.mk hr
        replace hi := Keep.mk hi
        replace hb := Keep.mk hb
        repeat (first
          | refine y_go rfl ?_
          | (refine y_region ?_; simp only [rg, Nat.reduceAdd, List.range, List.range.loop])
          | (refine y_nw rfl (by rfl) rfl (by exact nx rfl) (fun dd hS K hK => ?_); go_simp; refine hK _ _ _ ?_; clear hK K hS dd; simp only [recOf]; try walk_nrm)
          | (refine y_unwanted rfl (by rfl) ?_; try walk_nrm) | refine y_condT rfl ?_ | refine y_condF rfl ?_
          | refine y_block ?_ | refine y_label ?_ | refine y_ret ?_ | refine y_end ?_)
        refine y_leave rfl rfl Try.func122 (resultsC_tmp rfl _) ?_
        exact H.out _ _ _ ⟨by rw [hb.out]; rfl, rfl, rfl⟩
    | some lw =>
      have hl2 : last = (lw : Int) := by rw [← hlast.out]; unfold lastOf; rw [hw]
      have hp2 : 0 < A.p.went.length := by
        cases h : A.p.went with
        | nil => rw [h] at hw; cases hw
        | cons a l => simp
      obtain ⟨g2, cap2, hwv, hc2⟩ := row_at M.went hp2
      have r3 := M.r3
      rw [hwv] at r3
      have cl : w.cell? ⟨g2, A.p.went.length - 1, none⟩ = some (.int .i64 lw) := by
        rw [hc2 _ (by omega) (by simp [ints]; omega)]
        have : A.p.went[A.p.went.length - 1]'(by omega) = lw := by
          rw [List.getLast?_eq_getElem?, List.getElem?_eq_getElem (by omega)] at hw
          exact Option.some.inj hw
        simp [ints, this]
      have e2 : (0 : Int) < A.p.went.length := by omega
      have e3 : IntKind.i64.wrap ((A.p.went.length : Int) - 1) = ((A.p.went.length - 1 : Nat) : Int) := by
        have := hw64.out
        rw [wrap_small (by omega) (by omega)]; omega
      have e4 : ((A.p.went.length - 1 : Nat) : Int) < A.p.went.length := by omega
      have e5 : 0 ≤ ((A.p.went.length - 1 : Nat) : Int) := by omega
      subst hl2
      generalize hk : A.p.went.length - 1 = k at cl e3 e4 e5
      replace hw := Keep.mk hw
      replace M := Keep.mk M
      replace hc2 := Keep.mk hc2
      replace hk := Keep.mk hk
      repeat (first
        | refine y_go rfl ?_
        | (refine y_region ?_; simp only [rg, Nat.reduceAdd, List.range, List.range.loop])
        | (refine y_nw rfl (by rfl) rfl (by exact nx rfl) (fun dd hS K hK => ?_); go_simp; refine hK _ _ _ ?_; clear hK K hS dd; simp only [recOf]; try walk_nrm)
        | (refine y_unwanted rfl (by rfl) ?_; try walk_nrm) | refine y_condT rfl ?_ | refine y_condF rfl ?_
        | refine y_block ?_ | refine y_label ?_ | refine y_ret ?_ | refine y_end ?_)
      refine y_loopI (fun r a σ' w' => σ' = σ ∧ w' = w ∧ ∃ i : Nat, i ≤ L.length ∧ r = L.length - i ∧ (∀ x (hx : x < i) (hL : x < L.length), ¬ ((lw : Int) < (L[x] : Int))) ∧
          Tm a 57 [(1, .slice (some ⟨g, 0, none⟩) L.length cap), (7, .int .i64 (lw : Int)), (40, .slice (some ⟨g, 0, none⟩) L.length cap), (41, .int .i64 L.length), (42, .int .i64 i)]) L.length
        ⟨rfl, rfl, 0, Nat.zero_le _, rfl, fun x hx => absurd hx (Nat.not_lt_zero x), ⟨rfl, rfl, rfl, rfl, rfl, rfl, rfl, trivial⟩⟩ ?_
      rintro r IH a σ w1 ⟨rfl, rfl, i, hi, hr, hno, hT⟩
      obtain ⟨j, rfl, h0', h1', h2', h3', h4', -⟩ := Tm.lit hT
      simp only at h0' h1' h2' h3' h4'
      simp only [List.range, List.range.loop, List.map_cons, List.map_nil, h0', h1', h2', h3', h4']
      clear h0' h1' h2' h3' h4' hT
      by_cases e : i < L.length
      · have c1 := hcell'.out i e
        have c2 := hnum.out i e
        have e2 : (i : Int) < L.length := by omega
        have e3 : 0 ≤ (i : Int) := by omega
        by_cases e4 : (lw : Int) < (L[i] : Int)
        · have hb : behindmost L (lw : Int) = L[i] := by
            unfold behindmost
            have hf : L.find? (fun j : Nat => decide ((lw : Int) < (j : Int))) = some L[i] := by
              rw [List.find?_eq_some_iff_getElem]
              refine ⟨by simpa using e4, i, e, rfl, fun k hk => ?_⟩
              have := hno k hk (by omega)
              simpa using this
            rw [hf]
          replace e := Keep.mk e
          replace IH := Keep.mk IH
          replace hno := Keep.mk hno
          replace hb := Keep.mk hb
          replace hr := Keep.mk hr
          replace hi := Keep.mk hi
          repeat (first
            | refine y_go rfl ?_
            | (refine y_region ?_; simp only [rg, Nat.reduceAdd, List.range, List.range.loop])
            | (refine y_nw rfl (by rfl) rfl (by exact nx rfl) (fun dd hS K hK => ?_); go_simp; refine hK _ _ _ ?_; clear hK K hS dd; simp only [recOf]; try walk_nrm)
            | (refine y_unwanted rfl (by rfl) ?_; try walk_nrm) | refine y_condT rfl ?_ | refine y_condF rfl ?_
            | refine y_block ?_ | refine y_label ?_ | refine y_ret ?_ | refine y_end ?_)
          refine y_leave rfl rfl Try.func122 (resultsC_tmp rfl _) ?_
          exact H.out _ _ _ ⟨by rw [hb.out]; rfl, rfl, rfl⟩
        · replace e := Keep.mk e
          replace IH := Keep.mk IH
          replace hno := Keep.mk hno
          replace hr := Keep.mk hr
          replace hi := Keep.mk hi
          repeat (first
            | refine y_go rfl ?_
            | (refine y_region ?_; simp only [rg, Nat.reduceAdd, List.range, List.range.loop])
            | (refine y_nw rfl (by rfl) rfl (by exact nx rfl) (fun dd hS K hK => ?_); go_simp; refine hK _ _ _ ?_; clear hK K hS dd; simp only [recOf]; try walk_nrm)
            | (refine y_unwanted rfl (by rfl) ?_; try walk_nrm) | refine y_condT rfl ?_ | refine y_condF rfl ?_
            | refine y_block ?_ | refine y_label ?_ | refine y_ret ?_ | refine y_end ?_)
          replace e := Keep.out e
          replace IH := Keep.out IH
          replace hno := Keep.out hno
          replace hr := Keep.out hr
          replace hi := Keep.out hi
          replace hlen := Keep.out hlen
          rw [wrap_small (by omega) (by omega), show (i : Int) + 1 = ((i + 1 : Nat) : Int) by omega]
          refine IH _ _ _ _ (by omega) ⟨rfl, rfl, i + 1, by omega, rfl, fun x hx hL' => ?_, ⟨rfl, rfl, rfl, rfl, rfl, rfl, rfl, trivial⟩⟩
          by_cases ex : x = i
          · subst ex; exact e4
          · exact hno x (by omega) hL'
      · have hb : behindmost L (lw : Int) = L[0]'hpos.out := by
          unfold behindmost
          have hf : L.find? (fun j : Nat => decide ((lw : Int) < (j : Int))) = none := by
            rw [List.find?_eq_none]
            intro x hx
            obtain ⟨k, hk, rfl⟩ := List.mem_iff_getElem.1 hx
            have := hno k (by omega) hk
            simpa using this
          rw [hf]
          cases L with
          | nil => exact absurd rfl hL
          | cons a l => rfl
        have c0 := hcell'.out 0 hpos.out
        have e2 : ¬ ((i : Int) < L.length) := by omega
        have e5 : 0 < L.length := hpos.out
        replace IH := Keep.mk IH
        replace hno := Keep.mk hno
        replace hr := Keep.mk hr
        replace hi := Keep.mk hi
        replace hb := Keep.mk hb
        repeat (first
          | refine y_go rfl ?_
          | (refine y_region ?_; simp only [rg, Nat.reduceAdd, List.range, List.range.loop])
          | (refine y_nw rfl (by rfl) rfl (by exact nx rfl) (fun dd hS K hK => ?_); go_simp; refine hK _ _ _ ?_; clear hK K hS dd; simp only [recOf]; try walk_nrm)
          | (refine y_unwanted rfl (by rfl) ?_; try walk_nrm) | refine y_condT rfl ?_ | refine y_condF rfl ?_
          | refine y_block ?_ | refine y_label ?_ | refine y_ret ?_ | refine y_end ?_)
        refine y_leave rfl rfl Try.func122 (resultsC_tmp rfl _) ?_
        exact H.out _ _ _ ⟨by rw [hb.out]; rfl, rfl, rfl⟩
end
end Go.Proofs.Ytcibnfjpagmdaaa
