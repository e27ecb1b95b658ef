/- Main goes on until the run ends. -/
import Derived.Test.YtcibnfjpagmdaaaTurned
set_option linter.unusedSimpArgs false
set_option linter.unusedVariables false
set_option maxRecDepth 100000
set_option maxHeartbeats 8000000
namespace Go.Proofs.Ytcibnfjpagmdaaa
open Go.TX Go.Conc Go.RowKit Go.MapKept

/-- A thread's body as a value. -/
structure Bod where
  f : FuncId
  first : Array Value
  cap : Array Value
def Bod.val (b : Bod) : Value := .func (.func b.f) b.first b.cap
def FuncRow (w : World) (bo : Option Addr) (l : List Bod) : Prop := ∀ x (hx : x < l.length), ∃ ad, bo = some ad ∧ w.cell? (ad.add x) = some l[x].val
/-- What a run of these bodies by these picks leans on. -/
structure Plan (Fin : Machine → Trace → Prop) (C : Client) (picks : List Int) (pbo : Option Addr) (bs : List Bod) (bbo : Option Addr) (κ0 : Nat → C.K) : Prop where
  rows : ∀ kap s st log cv own w, C.Inv kap s st log cv own w → IntRow w pbo picks ∧ FuncRow w bbo bs
  small : Small64 picks
  n64 : bs.length ≤ 64
  body : ∀ x (hx : x < bs.length), (∃ fn, Try.prog.funcs[bs[x].f]? = some fn ∧ (fn.name == "runtime.NumGoroutine") = false ∧ fn.body.isNone = false) ∧ BodyOK Fin C x (κ0 x) bs[x].f bs[x].first bs[x].cap

section
variable {Fin : Machine → Trace → Prop} {C : Client} {most : Nat} {A : GA} {κ0 : Nat → C.K} {s : C.S} {gs : Nat → Goroutine} {gm : Goroutine} {os : Os} {out : Array (Nat × ByteArray)} {w : World} {kp : Nat → Option Obj} {picks : List Int} {pbo bbo : Option Addr} {bs : List Bod} {cv0 : Nat → Int} {pc rl pcp bcp : Nat}

theorem IntRow.big {l : List Int} {w' : World} (h : IntRow w pbo l) (B : Bigger w w') : IntRow w' pbo l := fun x hx => by
  obtain ⟨ad, h1, h2⟩ := h x hx
  exact ⟨ad, h1, (cell?_of_block (B.old _ (lt_of_cell h2))).trans h2⟩

def UntilR (Fin : Machine → Trace → Prop) (C : Client) (most : Nat) (A : GA) (gm : Goroutine) (os : Os) (out : Array (Nat × ByteArray)) (kp : Nat → Option Obj) (picks : List Int) (n : Nat) (cv0 : Nat → Int) (v : Value) (σ' : Cfg) (w' : World) : Prop :=
  ∃ A' kap' s' gs' m', v = .tuple #[.int .i8 A'.p.ends, .bool true] ∧ σ' = cfgOf A' none gs' gm os out ∧ Board Fin C m' A' kap' s' gs' w' ∧ Held kp A' w' ∧ Go.TX.Reach picks (Begun n cv0) A'.p ∧ A'.p.stopsAt most ∧ A'.n0 = A.n0 ∧ A'.R = A.R ∧ A'.cells = A.cells

theorem until_calls (P : Plan Fin C picks pbo bs bbo κ0) (B : Board Fin C most A κ0 s gs w) (Hk : Held kp A w) (hA : Begun 0 cv0 A.p) (hm : most ≤ 65536)
    (hpc : kp pc = some (.cells #[.slice pbo picks.length pcp] 24)) (hrl : kp rl = some (.cells #[.pointer (some ⟨A.R, 0, none⟩)] 196)) :
    CallsX (tokenJ Try.prog Fin) 121 #[.pointer (some ⟨A.R, 0, none⟩), .int .i64 most, .slice bbo bs.length bcp, .func (.func 122) #[] #[.pointer (some ⟨pc, 0, none⟩), .pointer (some ⟨rl, 0, none⟩)]] (cfgOf A none gs gm os out) w
      (UntilR Fin C most A gm os out kp picks bs.length cv0) := by
  refine callsX_body Try.func121 rfl fun c cs H HN => ?_
  simp only [Try.f121, Try.ntmps121, List.size_toArray, List.length_cons, List.length_nil, Nat.reduceAdd, Nat.reduceSub, Nat.zero_add, Array.replicate_succ, Array.replicate_zero, List.push_toArray, List.append_toArray, List.nil_append, List.cons_append, List.append_nil]
  have hn64 := P.n64
  obtain ⟨R, hR⟩ : ∃ R, R = A.R := ⟨_, rfl⟩
  obtain ⟨sv, hsv⟩ : ∃ sv, sv = Value.func (.func 122) #[] #[.pointer (some ⟨pc, 0, none⟩), .pointer (some ⟨rl, 0, none⟩)] := ⟨_, rfl⟩
  rw [← hR, ← hsv]
  replace hR := Keep.mk hR
  replace hsv := Keep.mk hsv
  replace B := Keep.mk B
  replace Hk := Keep.mk Hk
  replace H := Keep.mk H
  replace hA := Keep.mk hA
  replace hm := Keep.mk hm
  replace hpc := Keep.mk hpc
  replace hrl := Keep.mk hrl
  replace P := Keep.mk P
  replace hn64 := Keep.mk hn64
  repeat (first
    | refine y_go rfl ?_
    | (refine y_region ?_; simp only [rg, Nat.reduceAdd, List.range, List.range.loop])
    | (refine y_nw rfl (by rfl) rfl (by exact nx rfl) (fun dd hS K hK => ?_); go_simp; refine hK _ _ _ ?_; clear hK K hS dd; simp only [recOf]; try walk_nrm)
    | (refine y_unwanted rfl (by rfl) ?_; try walk_nrm) | refine y_condT rfl ?_ | refine y_condF rfl ?_
    | refine y_block ?_ | refine y_label ?_ | refine y_ret ?_ | refine y_end ?_)
  refine y_loopI (fun r a σ' w' => ∃ (i : Nat) (A' : GA) (kap' : Nat → C.K) (s' : C.S) (gs' : Nat → Goroutine), i ≤ bs.length ∧ r = bs.length - i ∧ σ' = cfgOf A' none gs' gm os out ∧ Board Fin C most A' kap' s' gs' w' ∧ Held kp A' w' ∧ Begun i cv0 A'.p ∧ (∀ j, i ≤ j → kap' j = κ0 j) ∧ A'.n0 = A.n0 ∧ A'.R = R ∧ A'.cells = A.cells ∧
      Tm a 80 [(0, .pointer (some ⟨R, 0, none⟩)), (1, .int .i64 most), (3, sv), (15, .slice bbo bs.length bcp), (16, .int .i64 bs.length), (17, .int .i64 i)]) bs.length
    ⟨0, A, κ0, s, gs, Nat.zero_le _, rfl, rfl, B.out, Hk.out, hA.out, fun _ _ => rfl, rfl, hR.out.symm, rfl, ⟨rfl, rfl, rfl, rfl, rfl, rfl, rfl, rfl, trivial⟩⟩ ?_
  rintro r IH a σ w1 ⟨i, A', kap', s', gs', hi, hr, rfl, B', H', hb', hk', hn0, hR', hcl, hT⟩
  obtain ⟨j, rfl, h0', h1', h2', h3', h4', h5', -⟩ := Tm.lit hT
  simp only at h0' h1' h2' h3' h4' h5'
  simp only [List.range, List.range.loop, List.map_cons, List.map_nil, h0', h1', h2', h3', h4', h5']
  clear h0' h1' h2' h3' h4' h5' hT
  by_cases e : i < bs.length
  · have e1 : (i : Int) < bs.length := by omega
    have e2 : 0 ≤ (i : Int) := by omega
    obtain ⟨ad, rfl, hcell⟩ := (P.out.rows _ _ _ _ _ _ _ B'.inv).2 i e
    obtain ⟨⟨fn, f1, f2, f3⟩, hbody⟩ := P.out.body i e
    generalize bs[i] = bd at hcell f1 f2 f3 hbody
    have hnth := hb'.nth
    have hk := hk' i (Nat.le_refl _)
    have hbg := begin_calls (gm := gm) (os := os) (out := out) f1 f2 f3 B' H' (by rw [hnth]; have := hn64.out; omega) (by rw [hnth, hk]; exact hbody)
    rw [hR'] at hbg
    unfold Bod.val at hcell
    clear f1 f2 f3 hbody
    replace hbg := Keep.mk hbg
    replace IH := Keep.mk IH
    replace B' := Keep.mk B'
    replace H' := Keep.mk H'
    replace hb' := Keep.mk hb'
    replace hk' := Keep.mk hk'
    replace hi := Keep.mk hi
    replace hr := Keep.mk hr
    replace e := Keep.mk e
    replace hnth := Keep.mk hnth
    replace hk := Keep.mk hk
    replace hn0 := Keep.mk hn0
    replace hR' := Keep.mk hR'
    replace hcl := Keep.mk hcl
    repeat (first
      | refine y_go rfl ?_
      | (refine y_region ?_; simp only [rg, Nat.reduceAdd, List.range, List.range.loop])
      | (refine y_nw rfl (by rfl) rfl (by exact nx rfl) (fun dd hS K hK => ?_); go_simp; refine hK _ _ _ ?_; clear hK K hS dd; simp only [recOf]; try walk_nrm)
      | (refine y_unwanted rfl (by rfl) ?_; try walk_nrm) | refine y_condT rfl ?_ | refine y_condF rfl ?_
      | refine y_block ?_ | refine y_label ?_ | refine y_ret ?_ | refine y_end ?_)
    refine y_callR rfl (by rfl) rfl rfl Try.func171 (by kernel_rfl) (by kernel_rfl) (hbg.out) (by simp only [List.map_toArray, List.map_cons, List.map_nil] <;> rfl) ?_
    rintro v σ'' w2 ⟨A2, κ', s2, g', x, rfl, B2, H2, hx, hp2, h1, h2, h3⟩
    replace B2 := Keep.mk B2
    replace H2 := Keep.mk H2
    replace hx := Keep.mk hx
    replace hp2 := Keep.mk hp2
    replace h1 := Keep.mk h1
    replace h2 := Keep.mk h2
    replace h3 := Keep.mk h3
    walk_nrm
    repeat (first
      | refine y_go rfl ?_
      | (refine y_region ?_; simp only [rg, Nat.reduceAdd, List.range, List.range.loop])
      | (refine y_nw rfl (by rfl) rfl (by exact nx rfl) (fun dd hS K hK => ?_); go_simp; refine hK _ _ _ ?_; clear hK K hS dd; simp only [recOf]; try walk_nrm)
      | (refine y_unwanted rfl (by rfl) ?_; try walk_nrm) | refine y_condT rfl ?_ | refine y_condF rfl ?_
      | refine y_block ?_ | refine y_label ?_ | refine y_ret ?_ | refine y_end ?_)
    replace B2 := Keep.out B2
    replace H2 := Keep.out H2
    replace hx := Keep.out hx
    replace hp2 := Keep.out hp2
    replace h1 := Keep.out h1
    replace h2 := Keep.out h2
    replace h3 := Keep.out h3
    replace IH := Keep.out IH
    replace hb' := Keep.out hb'
    replace hk' := Keep.out hk'
    replace hi := Keep.out hi
    replace hr := Keep.out hr
    replace e := Keep.out e
    replace hnth := Keep.out hnth
    replace hk := Keep.out hk
    replace hn64 := Keep.out hn64
    replace hn0 := Keep.out hn0
    replace hR' := Keep.out hR'
    replace hcl := Keep.out hcl
    rw [wrap_small (by omega) (by omega), show (i : Int) + 1 = ((i + 1 : Nat) : Int) by omega]
    rw [hnth] at B2
    refine IH _ _ _ _ (by omega) ⟨i + 1, A2, setAt kap' i κ', s2, setAt gs' i g', by omega, rfl, by rw [hnth], B2, H2, ?_, fun j hj => ?_, h1.trans hn0, h2.trans hR', h3.trans hcl, ⟨rfl, rfl, rfl, rfl, rfl, rfl, rfl, rfl, trivial⟩⟩
    · rw [hnth] at hp2
      rw [hp2]
      refine ⟨rfl, hb'.log, hb'.went, hb'.ready, hb'.cn, hb'.cv, fun j => ?_⟩
      show j < i + 1 ↔ setAt A'.p.st i x j ≠ .unborn
      by_cases ej : j = i
      · subst ej; rw [setAt_same]; simp [hx]
      · rw [setAt_ne _ _ ej, ← hb'.born j]; omega
    · rw [setAt_ne _ _ (by omega)]; exact hk' j (by omega)
  · have e1 : ¬ ((i : Int) < bs.length) := by omega
    have hin : i = bs.length := by omega
    subst hin
    clear IH hr
    replace B' := Keep.mk B'
    replace H' := Keep.mk H'
    replace hb' := Keep.mk hb'
    replace hk' := Keep.mk hk'
    replace hi := Keep.mk hi
    replace e := Keep.mk e
    replace hn0 := Keep.mk hn0
    replace hR' := Keep.mk hR'
    replace hcl := Keep.mk hcl
    repeat (first
      | refine y_go rfl ?_
      | (refine y_region ?_; simp only [rg, Nat.reduceAdd, List.range, List.range.loop])
      | (refine y_nw rfl (by rfl) rfl (by exact nx rfl) (fun dd hS K hK => ?_); go_simp; refine hK _ _ _ ?_; clear hK K hS dd; simp only [recOf]; try walk_nrm)
      | (refine y_unwanted rfl (by rfl) ?_; try walk_nrm) | refine y_condT rfl ?_ | refine y_condF rfl ?_
      | refine y_block ?_ | refine y_label ?_ | refine y_ret ?_ | refine y_end ?_)
    refine y_loopI (fun r a σ' w' => ∃ (A' : GA) (kap' : Nat → C.K) (s' : C.S) (gs' : Nat → Goroutine), r + A'.p.went.length = most ∧ σ' = cfgOf A' none gs' gm os out ∧ Board Fin C r A' kap' s' gs' w' ∧ Held kp A' w' ∧ Go.TX.Reach picks (Begun bs.length cv0) A'.p ∧ A'.n0 = A.n0 ∧ A'.R = R ∧ A'.cells = A.cells ∧
        Tm a 80 [(0, .pointer (some ⟨R, 0, none⟩)), (1, .int .i64 most), (3, sv)]) most
      ⟨A', kap', s', gs', by rw [hb'.out.went]; rfl, rfl, B'.out, H'.out, .start hb'.out, hn0.out, hR'.out, hcl.out, ⟨rfl, rfl, rfl, rfl, rfl, trivial⟩⟩ ?_
    clear B' H' hb' hk' hi e hn0 hR' hcl e1
    clear A' kap' s' gs' w1 j
    rintro r IH a σ w1 ⟨A', kap', s', gs', hr, rfl, B', H', hre, hn0, hR', hcl, hT⟩
    obtain ⟨j, rfl, h0', h1', h2', -⟩ := Tm.lit hT
    simp only at h0' h1' h2'
    simp only [List.range, List.range.loop, List.map_cons, List.map_nil, h0', h1', h2']
    clear h0' h1' h2' hT
    have M' := B'.mem
    have hab := able_calls (J := tokenJ Try.prog Fin) (σ := cfgOf A' none gs' gm os out) M'
    have r3 := M'.r3
    obtain ⟨bo, cp, hwv⟩ := row_slice M'.went
    rw [hwv] at r3
    rw [hR'] at hab r3
    by_cases ho : A'.p.over = true
    · rw [ho] at hab
      have hend : A'.p.ends = 1 := by unfold Pub.ends; rw [if_pos ho]
      replace hab := Keep.mk hab
      replace IH := Keep.mk IH
      replace B' := Keep.mk B'
      replace H' := Keep.mk H'
      replace hre := Keep.mk hre
      replace hn0 := Keep.mk hn0
      replace hR' := Keep.mk hR'
      replace hcl := Keep.mk hcl
      replace hr := Keep.mk hr
      replace M' := Keep.mk M'
      replace hwv := Keep.mk hwv
      replace ho := Keep.mk ho
      replace hend := Keep.mk hend
      repeat (first
        | refine y_go rfl ?_
        | (refine y_region ?_; simp only [rg, Nat.reduceAdd, List.range, List.range.loop])
        | (refine y_nw rfl (by rfl) rfl (by exact nx rfl) (fun dd hS K hK => ?_); go_simp; refine hK _ _ _ ?_; clear hK K hS dd; simp only [recOf]; try walk_nrm)
        | (refine y_unwanted rfl (by rfl) ?_; try walk_nrm) | refine y_condT rfl ?_ | refine y_condF rfl ?_
        | refine y_block ?_ | refine y_label ?_ | refine y_ret ?_ | refine y_end ?_)
      refine y_callR rfl (by rfl) rfl rfl Try.func172 (by kernel_rfl) (by kernel_rfl) (hab.out) (by simp only [List.map_toArray, List.map_cons, List.map_nil] <;> rfl) ?_
      rintro v σ'' w2 ⟨lv, rfl, rfl, B2, own⟩
      replace B2 := Keep.mk B2
      replace own := Keep.mk own
      walk_nrm
      repeat (first
        | refine y_go rfl ?_
        | (refine y_region ?_; simp only [rg, Nat.reduceAdd, List.range, List.range.loop])
        | (refine y_nw rfl (by rfl) rfl (by exact nx rfl) (fun dd hS K hK => ?_); go_simp; refine hK _ _ _ ?_; clear hK K hS dd; simp only [recOf]; try walk_nrm)
        | (refine y_unwanted rfl (by rfl) ?_; try walk_nrm) | refine y_condT rfl ?_ | refine y_condF rfl ?_
        | refine y_block ?_ | refine y_label ?_ | refine y_ret ?_ | refine y_end ?_)
      refine y_leave rfl rfl Try.func121 (resultsC_tmp2 rfl _) ?_
      replace B2 := Keep.out B2
      replace B' := Keep.out B'
      replace H' := Keep.out H'
      refine H.out _ _ _ ⟨A', kap', s', gs', r, by rw [hend.out]; rfl, rfl, ⟨B'.mem.grown B2.old, B'.n0, B'.on, C.stable B'.inv B2.size fun b hb hno => ⟨B2.old b hb, hno⟩, B'.pr⟩, fun b o hb => ⟨B2.is (H' b o hb).1, (H' b o hb).2⟩, hre.out, fun h => by rw [hend.out] at h; omega, hn0.out, hR'.out.trans hR.out, hcl.out⟩
    · have ho' : A'.p.over = false := by simpa using ho
      rw [ho'] at hab
      by_cases ha : A'.p.able = []
      · have hend : A'.p.ends = 3 := by unfold Pub.ends; rw [if_neg ho, if_pos ha]
        rw [ha] at hab
        replace hab := Keep.mk hab
        replace IH := Keep.mk IH
        replace B' := Keep.mk B'
        replace H' := Keep.mk H'
        replace hre := Keep.mk hre
        replace hn0 := Keep.mk hn0
        replace hR' := Keep.mk hR'
        replace hcl := Keep.mk hcl
        replace hr := Keep.mk hr
        replace M' := Keep.mk M'
        replace hwv := Keep.mk hwv
        replace ho := Keep.mk ho
        replace ho' := Keep.mk ho'
        replace hend := Keep.mk hend
        replace ha := Keep.mk ha
        repeat (first
          | refine y_go rfl ?_
          | (refine y_region ?_; simp only [rg, Nat.reduceAdd, List.range, List.range.loop])
          | (refine y_nw rfl (by rfl) rfl (by exact nx rfl) (fun dd hS K hK => ?_); go_simp; refine hK _ _ _ ?_; clear hK K hS dd; simp only [recOf]; try walk_nrm)
          | (refine y_unwanted rfl (by rfl) ?_; try walk_nrm) | refine y_condT rfl ?_ | refine y_condF rfl ?_
          | refine y_block ?_ | refine y_label ?_ | refine y_ret ?_ | refine y_end ?_)
        refine y_callR rfl (by rfl) rfl rfl Try.func172 (by kernel_rfl) (by kernel_rfl) (hab.out) (by simp only [List.map_toArray, List.map_cons, List.map_nil] <;> rfl) ?_
        rintro v σ'' w2 ⟨lv, rfl, rfl, B2, own⟩
        obtain ⟨bl, cl, rfl⟩ := row_slice own
        replace B2 := Keep.mk B2
        replace own := Keep.mk own
        walk_nrm
        repeat (first
          | refine y_go rfl ?_
          | (refine y_region ?_; simp only [rg, Nat.reduceAdd, List.range, List.range.loop])
          | (refine y_nw rfl (by rfl) rfl (by exact nx rfl) (fun dd hS K hK => ?_); go_simp; refine hK _ _ _ ?_; clear hK K hS dd; simp only [recOf]; try walk_nrm)
          | (refine y_unwanted rfl (by rfl) ?_; try walk_nrm) | refine y_condT rfl ?_ | refine y_condF rfl ?_
          | refine y_block ?_ | refine y_label ?_ | refine y_ret ?_ | refine y_end ?_)
        refine y_leave rfl rfl Try.func121 (resultsC_tmp2 rfl _) ?_
        replace B2 := Keep.out B2
        replace B' := Keep.out B'
        replace H' := Keep.out H'
        refine H.out _ _ _ ⟨A', kap', s', gs', r, by rw [hend.out]; rfl, rfl, ⟨B'.mem.grown B2.old, B'.n0, B'.on, C.stable B'.inv B2.size fun b hb hno => ⟨B2.old b hb, hno⟩, B'.pr⟩, fun b o hb => ⟨B2.is (H' b o hb).1, (H' b o hb).2⟩, hre.out, fun h => by rw [hend.out] at h; omega, hn0.out, hR'.out.trans hR.out, hcl.out⟩
      · generalize hL : A'.p.able = L at hab
        have hLne : L ≠ [] := hL ▸ ha
        have hLn : ∀ j ∈ L, j < A'.p.nth := fun j hj => (Pub.can_lt (hL ▸ hj)).1
        have hL64 : L.length ≤ 64 := by
          rw [← hL]
          exact Nat.le_trans (List.length_filter_le _ _) (by simp; exact M'.small.2.2.2)
        have hz : ((L.length : Int) == 0) = false := by
          have := List.length_pos_iff.2 hLne
          simp only [beq_eq_false_iff_ne, ne_eq]; omega
        by_cases hw : A'.p.went.length = most
        · have hend : A'.p.ends = 2 := by unfold Pub.ends; rw [if_neg ho, if_neg ha]
          rw [hw] at r3
          replace hab := Keep.mk hab
          replace IH := Keep.mk IH
          replace B' := Keep.mk B'
          replace H' := Keep.mk H'
          replace hre := Keep.mk hre
          replace hn0 := Keep.mk hn0
          replace hR' := Keep.mk hR'
          replace hcl := Keep.mk hcl
          replace hr := Keep.mk hr
          replace M' := Keep.mk M'
          replace hwv := Keep.mk hwv
          replace ho := Keep.mk ho
          replace ho' := Keep.mk ho'
          replace hend := Keep.mk hend
          replace ha := Keep.mk ha
          replace hL := Keep.mk hL
          replace hw := Keep.mk hw
          replace hLn := Keep.mk hLn
          replace hL64 := Keep.mk hL64
          repeat (first
            | refine y_go rfl ?_
            | (refine y_region ?_; simp only [rg, Nat.reduceAdd, List.range, List.range.loop])
            | (refine y_nw rfl (by rfl) rfl (by exact nx rfl) (fun dd hS K hK => ?_); go_simp; refine hK _ _ _ ?_; clear hK K hS dd; simp only [recOf]; try walk_nrm)
            | (refine y_unwanted rfl (by rfl) ?_; try walk_nrm) | refine y_condT rfl ?_ | refine y_condF rfl ?_
            | refine y_block ?_ | refine y_label ?_ | refine y_ret ?_ | refine y_end ?_)
          refine y_callR rfl (by rfl) rfl rfl Try.func172 (by kernel_rfl) (by kernel_rfl) (hab.out) (by simp only [List.map_toArray, List.map_cons, List.map_nil] <;> rfl) ?_
          rintro v σ'' w2 ⟨lv, rfl, rfl, B2, own⟩
          obtain ⟨bl, cl, rfl⟩ := row_slice own
          have r3 := (cell?_of_block (B2.old _ (lt_of_cell r3))).trans r3
          replace B2 := Keep.mk B2
          replace own := Keep.mk own
          walk_nrm
          repeat (first
            | refine y_go rfl ?_
            | (refine y_region ?_; simp only [rg, Nat.reduceAdd, List.range, List.range.loop])
            | (refine y_nw rfl (by rfl) rfl (by exact nx rfl) (fun dd hS K hK => ?_); go_simp; refine hK _ _ _ ?_; clear hK K hS dd; simp only [recOf]; try walk_nrm)
            | (refine y_unwanted rfl (by rfl) ?_; try walk_nrm) | refine y_condT rfl ?_ | refine y_condF rfl ?_
            | refine y_block ?_ | refine y_label ?_ | refine y_ret ?_ | refine y_end ?_)
          refine y_leave rfl rfl Try.func121 (resultsC_tmp2 rfl _) ?_
          replace B2 := Keep.out B2
          replace B' := Keep.out B'
          replace H' := Keep.out H'
          refine H.out _ _ _ ⟨A', kap', s', gs', r, by rw [hend.out]; rfl, rfl, ⟨B'.mem.grown B2.old, B'.n0, B'.on, C.stable B'.inv B2.size fun b hb hno => ⟨B2.old b hb, hno⟩, B'.pr⟩, fun b o hb => ⟨B2.is (H' b o hb).1, (H' b o hb).2⟩, hre.out, fun _ => hw.out, hn0.out, hR'.out.trans hR.out, hcl.out⟩
        · have hz2 : ((A'.p.went.length : Int) == (most : Int)) = false := by simp only [beq_eq_false_iff_ne, ne_eq]; omega
          replace hab := Keep.mk hab
          replace IH := Keep.mk IH
          replace B' := Keep.mk B'
          replace H' := Keep.mk H'
          replace hre := Keep.mk hre
          replace hn0 := Keep.mk hn0
          replace hR' := Keep.mk hR'
          replace hcl := Keep.mk hcl
          replace hr := Keep.mk hr
          replace M' := Keep.mk M'
          replace hwv := Keep.mk hwv
          replace ho := Keep.mk ho
          replace ho' := Keep.mk ho'
          replace ha := Keep.mk ha
          replace hL := Keep.mk hL
          replace hLn := Keep.mk hLn
          replace hL64 := Keep.mk hL64
          replace hw := Keep.mk hw
          repeat (first
            | refine y_go rfl ?_
            | (refine y_region ?_; simp only [rg, Nat.reduceAdd, List.range, List.range.loop])
            | (refine y_nw rfl (by rfl) rfl (by exact nx rfl) (fun dd hS K hK => ?_); go_simp; refine hK _ _ _ ?_; clear hK K hS dd; simp only [recOf]; try walk_nrm)
            | (refine y_unwanted rfl (by rfl) ?_; try walk_nrm) | refine y_condT rfl ?_ | refine y_condF rfl ?_
            | refine y_block ?_ | refine y_label ?_ | refine y_ret ?_ | refine y_end ?_)
          refine y_callR rfl (by rfl) rfl rfl Try.func172 (by kernel_rfl) (by kernel_rfl) (hab.out) (by simp only [List.map_toArray, List.map_cons, List.map_nil] <;> rfl) ?_
          rintro v σ'' w2 ⟨lv, rfl, rfl, B2, own⟩
          obtain ⟨bl, cl, rfl⟩ := row_slice own
          have r3 := (cell?_of_block (B2.old _ (lt_of_cell r3))).trans r3
          have M2 := M'.out.grown B2.old
          have cpk : w2.cell? ⟨pc, 0, none⟩ = some (.slice pbo picks.length pcp) := by
            have h := B2.is (H'.out pc _ hpc.out).1
            unfold World.cell?; rw [h]; rfl
          have crl : w2.cell? ⟨rl, 0, none⟩ = some (.pointer (some ⟨A'.R, 0, none⟩)) := by
            have h := B2.is (H'.out rl _ hrl.out).1
            unfold World.cell?; rw [h, hR'.out, hR.out]; rfl
          have hsc := sched_calls (J := tokenJ Try.prog Fin) (σ := cfgOf A' none gs' gm os out) M2 hLne hL64.out hLn.out own cpk crl ((P.out.rows _ _ _ _ _ _ _ B'.out.inv).1.big B2) P.out.small
          replace B2 := Keep.mk B2
          replace own := Keep.mk own
          replace M2 := Keep.mk M2
          replace hsc := Keep.mk hsc
          walk_nrm
          repeat (first
            | refine y_go rfl ?_
            | (refine y_region ?_; simp only [rg, Nat.reduceAdd, List.range, List.range.loop])
            | (refine y_nw rfl (by rfl) rfl (by exact nx rfl) (fun dd hS K hK => ?_); go_simp; refine hK _ _ _ ?_; clear hK K hS dd; simp only [recOf]; try walk_nrm)
            | (refine y_unwanted rfl (by rfl) ?_; try walk_nrm) | refine y_condT rfl ?_ | refine y_condF rfl ?_
            | refine y_block ?_ | refine y_label ?_ | refine y_ret ?_ | refine y_end ?_)
          refine y_callVA hsc.out rfl (by rfl) rfl rfl hsv.out Try.func122 (by kernel_rfl) (by kernel_rfl) (by simp only [List.map_toArray, List.map_cons, List.map_nil] <;> rfl) ?_ fun ch σ' w' h => h.elim
          rintro v σ'' w2' ⟨rfl, rfl, rfl⟩
          have hwh := Go.TX.Reach.whom (picks := picks) (p := A'.p) (by rw [hL.out]; exact hLne)
          rw [hL.out] at hwh
          obtain ⟨hjn, ac, hst, hpk⟩ := hwh
          generalize hj : whoGoes picks A'.p.went L = jj at hjn hst hpk
          have t1 := M2.out.t1 hjn
          replace hst := Keep.mk hst
          replace hpk := Keep.mk hpk
          replace hj := Keep.mk hj
          replace hjn := Keep.mk hjn
          walk_nrm
          repeat (first
            | refine y_go rfl ?_
            | (refine y_region ?_; simp only [rg, Nat.reduceAdd, List.range, List.range.loop])
            | (refine y_nw rfl (by rfl) rfl (by exact nx rfl) (fun dd hS K hK => ?_); go_simp; refine hK _ _ _ ?_; clear hK K hS dd; simp only [recOf]; try walk_nrm)
            | (refine y_unwanted rfl (by rfl) ?_; try walk_nrm) | refine y_condT rfl ?_ | refine y_condF rfl ?_
            | refine y_block ?_ | refine y_label ?_ | refine y_ret ?_ | refine y_end ?_)
          have hfree : ∀ b o, w2'.heap[b]? = some o → (∀ x y z u v t, o ≠ .chan x y z u v t) → (∀ x y, o ≠ .cells x 205 y) → (∀ x y, o ≠ .cells x 33 y) → (cfgOf A' none gs' gm os out).Free (· = b) := fun b o hb n1 n2 n3 => free_of M2.out (fun i hi => by cases hi) fun i hi => by
            obtain ⟨k1, h1⟩ := M2.out.wkc i hi
            obtain ⟨k2, h2⟩ := M2.out.sdc i hi
            exact ⟨ne_of_obj hb h1 (n1 _ _ _ _ _ _), ne_of_obj hb h2 (n1 _ _ _ _ _ _), ne_of_obj hb (M2.out.tcc i hi) (n3 _ _), ne_of_obj hb (M2.out.thr i hi) (n2 _ _)⟩
          have hfw : (cfgOf A' none gs' gm os out).Free (fun c => some c = A'.wentv.ownBlock) := free_own fun b hb => by
            obtain ⟨_, _, cur, hcur⟩ := row_ty M2.out.went hb
            exact hfree b _ hcur (by simp) (by simp) (by simp)
          have hfy : (cfgOf A' none gs' gm os out).Free (fun c => some c = A'.readyv.ownBlock) := free_own fun b hb => by
            obtain ⟨_, _, cur, hcur⟩ := row_ty M2.out.ready hb
            exact hfree b _ hcur (by simp) (by simp) (by simp)
          have hfR := hfree _ _ M2.out.runs (by simp [runObj]) (by simp [runObj]) (by simp [runObj])
          have own3 := M2.out.went
          rw [hwv.out] at hfw own3
          have hrun2 := M2.out.runs
          have hRlt := lt_of_get hrun2
          rw [hR'.out] at hrun2 hRlt hfR
          have hmost := hm.out
          have hwl : A'.p.went.length < 65536 := by have := hr.out; have := hw.out; omega
          have hrl2 : A'.p.ready.length < 65536 := by have := hre.out.lens; omega
          replace hfree := Keep.mk hfree
          replace hfw := Keep.mk hfw
          replace hfy := Keep.mk hfy
          replace hfR := Keep.mk hfR
          replace own3 := Keep.mk own3
          replace hrun2 := Keep.mk hrun2
          replace hRlt := Keep.mk hRlt
          replace hmost := Keep.mk hmost
          replace hwl := Keep.mk hwl
          replace hrl2 := Keep.mk hrl2
          repeat (first
            | refine y_go rfl ?_
            | (refine y_nw rfl (by rfl) rfl (by exact nx rfl) (fun dd hS K hK => ?_); go_simp; refine hK _ _ _ ?_; clear hK K hS dd; simp only [recOf]; try walk_nrm)
            | (refine y_unwanted rfl (by rfl) ?_; try walk_nrm) | refine y_condT rfl ?_ | refine y_condF rfl ?_
            | refine y_block ?_ | refine y_label ?_ | refine y_ret ?_ | refine y_end ?_)
          refine y_drawnQ (fun _ w' => w'.cell? ⟨R, 3, none⟩ = some (.slice bo A'.p.went.length cp) ∧ w'.cell? ⟨A'.tb jj, 1, none⟩ = some (.int .i64 jj)) (fun i => i == 13) (by kernel_rfl) rfl ?_
          simp only [List.size_toArray, List.length_cons, List.length_nil, Nat.reduceAdd, Nat.reduceSub, Nat.zero_add, Array.replicate_succ, Array.replicate_zero, List.push_toArray, List.append_toArray, List.nil_append, List.cons_append, List.append_nil]
          first | (apply anyX_tW (i := 0) rfl; (focus rfl); (focus (exact nx rfl)); (focus (rintro σ' w' ⟨s0, s1⟩ d K hK; go_simp; exact hK)); (focus kernel_rfl); (focus (exact ⟨r3, t1⟩))) | (refine anyX_tU (i := 0) rfl rfl (by kernel_rfl) (by exact ⟨r3, t1⟩) ?_)
          try walk_nrm
          first | (apply anyX_tW (i := 1) rfl; (focus rfl); (focus (exact nx rfl)); (focus (rintro σ' w' ⟨s0, s1⟩ d K hK; go_simp; exact hK)); (focus kernel_rfl); (focus (exact ⟨r3, t1⟩))) | (refine anyX_tU (i := 1) rfl rfl (by kernel_rfl) (by exact ⟨r3, t1⟩) ?_)
          try walk_nrm
          first | (apply anyX_tW (i := 2) rfl; (focus rfl); (focus (exact nx rfl)); (focus (rintro σ' w' ⟨s0, s1⟩ d K hK; go_simp; exact hK)); (focus kernel_rfl); (focus (exact ⟨r3, t1⟩))) | (refine anyX_tU (i := 2) rfl rfl (by kernel_rfl) (by exact ⟨r3, t1⟩) ?_)
          try walk_nrm
          first | (apply anyX_tW (i := 3) rfl; (focus rfl); (focus (exact nx rfl)); (focus (rintro σ' w' ⟨s0, s1⟩ d K hK; go_simp; exact hK)); (focus kernel_rfl); (focus (exact ⟨r3, t1⟩))) | (refine anyX_tU (i := 3) rfl rfl (by kernel_rfl) (by exact ⟨r3, t1⟩) ?_)
          try walk_nrm
          first | (apply anyX_tW (i := 4) rfl; (focus rfl); (focus (exact nx rfl)); (focus (rintro σ' w' ⟨s0, s1⟩ d K hK; go_simp; exact hK)); (focus kernel_rfl); (focus (exact ⟨r3, t1⟩))) | (refine anyX_tU (i := 4) rfl rfl (by kernel_rfl) (by exact ⟨r3, t1⟩) ?_)
          try walk_nrm
          first | (apply anyX_tW (i := 5) rfl; (focus rfl); (focus (exact nx rfl)); (focus (rintro σ' w' ⟨s0, s1⟩ d K hK; go_simp; exact hK)); (focus kernel_rfl); (focus (exact ⟨r3, t1⟩))) | (refine anyX_tU (i := 5) rfl rfl (by kernel_rfl) (by exact ⟨r3, t1⟩) ?_)
          try walk_nrm
          first | (apply anyX_tW (i := 6) rfl; (focus rfl); (focus (exact nx rfl)); (focus (rintro σ' w' ⟨s0, s1⟩ d K hK; go_simp; exact hK)); (focus kernel_rfl); (focus (exact ⟨r3, t1⟩))) | (refine anyX_tU (i := 6) rfl rfl (by kernel_rfl) (by exact ⟨r3, t1⟩) ?_)
          try walk_nrm
          first | (apply anyX_tW (i := 7) rfl; (focus rfl); (focus (exact nx rfl)); (focus (rintro σ' w' ⟨s0, s1⟩ d K hK; go_simp; exact hK)); (focus kernel_rfl); (focus (exact ⟨r3, t1⟩))) | (refine anyX_tU (i := 7) rfl rfl (by kernel_rfl) (by exact ⟨r3, t1⟩) ?_)
          try walk_nrm
          first | (apply anyX_tW (i := 8) rfl; (focus rfl); (focus (exact nx rfl)); (focus (rintro σ' w' ⟨s0, s1⟩ d K hK; go_simp; exact hK)); (focus kernel_rfl); (focus (exact ⟨r3, t1⟩))) | (refine anyX_tU (i := 8) rfl rfl (by kernel_rfl) (by exact ⟨r3, t1⟩) ?_)
          try walk_nrm
          refine anyX_one (i := 9) (by kernel_rfl) ?_
          refine opX_nw rfl (by rfl) (by first | exact nx_of rfl | exact nx_nil rfl rfl | exact nx_int rfl rfl rfl) (fun dd hS K' hK' => ?_)
          go_simp
          refine hK' _ _ _ ?_
          clear hK' K' hS dd
          have N4 := newO w2' (.cells #[.int .i64 jj] 3)
          have n4 := cells_new w2' [.int .i64 jj] 3
          generalize w2'.alloc (.cells #[.int .i64 jj] 3) = w4 at N4 n4 ⊢
          have z4 := N4.size
          have B4 : Bigger w2' w4 := ⟨by omega, N4.old⟩
          have q0 := (cell?_of_block (B4.old _ (lt_of_cell r3))).trans r3
          have q1 := (cell?_of_block (B4.old _ (lt_of_cell t1))).trans t1
          refine ⟨fun _ => ⟨q0, q1⟩, ?_⟩
          try walk_nrm
          have own4 := row_later own3.out fun k hk => B4.old k (row_ty own3.out hk).2.1
          obtain ⟨i0, hi, hz0, hz1, hz2'⟩ := info_parts (P := Try.prog) (e := 3) (z := .int .i64 0) (size := 1) (bytes := 8) (by kernel_rfl)
          refine anyX_one (i := 10) (by kernel_rfl) (opX_append (size := 1) (bytes := 8) rfl (by rfl) rfl Try.underlying24 hi hz0 hz1 hz2' rfl (by decide) 0 rfl own4 rfl rfl n4 (fun x hx => by simp at hx; rcases hx with rfl; rfl) (by have := hwl.out; unfold maxLen; omega) (by have := hwl.out; omega) (Nat.zero_le _) hfw.out ?_)
          intro wentv' w5 own5 g5 _ b5
          have sz5 := g5.size
          have ltw : ∀ b, A'.wentv.ownBlock = some b → b < w2'.heap.size := fun b h => (row_ty M2.out.went h).2.1
          have old5 : ∀ b, b < w2'.heap.size → A'.wentv.ownBlock ≠ some b → w5.heap[b]? = w2'.heap[b]? := fun b hb hl => (g5.block b (by omega) (fun h => hl (by rw [hwv.out]; exact h.symm))).trans (B4.old b hb)
          have tyw : ∀ (b : Nat) (o : Obj), w2'.heap[b]? = some o → (∀ x y, o ≠ .cells x 3 y) → A'.wentv.ownBlock ≠ some b := fun b o hb n1 h => by
            obtain ⟨_, _, cur, hcur⟩ := row_ty M2.out.went h
            exact ne_of_obj hb hcur (n1 _ _) rfl
          have hR5 : w5.heap[R]? = some (runObj A') := (old5 R hRlt.out (tyw _ _ hrun2.out (by simp [runObj]))).trans hrun2.out
          have q0 : w5.cell? ⟨R, 3, none⟩ = some (.slice bo A'.p.went.length cp) := by unfold World.cell?; rw [hR5, ← hwv.out]; rfl
          have q1 : w5.cell? ⟨A'.tb jj, 1, none⟩ = some (.int .i64 jj) := by
            have h := M2.out.thr jj hjn.out
            have h2 := (old5 _ (lt_of_get h) (tyw _ _ h (by simp [thrObj]))).trans h
            unfold World.cell?; rw [h2]; rfl
          refine ⟨fun _ => ⟨q0, q1⟩, ?_⟩
          walk_nrm
          refine anyX_one (i := 11) (by kernel_rfl) (opX_nw rfl (by rfl) (by exact nx rfl) (fun dd hS K' hK' => ?_))
          go_simp
          refine hK' _ _ _ ?_
          clear hK' K' hS dd
          refine ⟨fun _ => ⟨q0, q1⟩, ?_⟩
          try walk_nrm
          refine anyX_one (i := 12) (by kernel_rfl) (opX_nw rfl (by rfl) (by exact nx rfl) (fun dd hS K' hK' => ?_))
          go_simp
          refine hK' _ _ _ ?_
          clear hK' K' hS dd
          refine ⟨fun _ => ⟨q0, q1⟩, ?_⟩
          try walk_nrm
          obtain ⟨bo1, cp1, rfl⟩ := row_slice own5
          refine anyX_one (i := 13) (by kernel_rfl) (opX_storeC (vs := #[.slice bo1 (A'.p.went.length + 1) cp1]) rfl (by rfl) rfl rfl rfl rfl hR5 (by first | kernel_rfl | rfl) (Nat.le_of_ble_eq_true rfl) (by simp [Value.oneCell']) (Cfg.Free.cells hfR.out) (fun w6 S6 => ?_))
          refine ⟨fun h => absurd h (by simp), ?_⟩
          try walk_nrm
          refine anyX_end (by kernel_rfl) ?_
          have hrun6 : w6.heap[R]? = some (.cells #[A'.thv, .map (some A'.mb), A'.logv, .slice bo1 (A'.p.went.length + 1) cp1, A'.readyv, A'.fellv, .bool A'.stops] 200) := S6.is
          have z6 := S6.size
          have old6 : ∀ b, b < w2'.heap.size → b ≠ R → A'.wentv.ownBlock ≠ some b → w6.heap[b]? = w2'.heap[b]? := fun b hb h1 h2 => (S6.other b h1).trans (old5 b hb h2)
          have went6 : w6.ownsRow 0 3 1 (.slice bo1 (A'.p.went.length + 1) cp1) (A'.p.went.length + 1) (ints A'.p.went ++ [.int .i64 jj]) := row_later own5 fun k hk => S6.other k fun e => by
            obtain ⟨_, _, cur, hcur⟩ := row_ty own5 hk
            exact ne_of_obj hcur hR5 (by simp [runObj]) e
          have bw : ∀ b, (Value.slice bo1 (A'.p.went.length + 1) cp1).ownBlock = some b → A'.wentv.ownBlock = some b ∨ (w2'.heap.size ≤ b ∧ b < w6.heap.size) := fun b hb => by
            have h3 := (row_ty went6 hb).2.1
            rcases b5 with e | e
            · left; rw [hwv.out]; exact Eq.trans e.symm hb
            · rw [e] at hb; have := Option.some.inj hb; exact .inr (by omega)
          obtain ⟨boy, cpy, hyv⟩ := row_slice M2.out.ready
          have ry6 : w6.ownsRow 0 3 1 A'.readyv A'.p.ready.length (ints A'.p.ready) := row_later M2.out.ready fun k hk => by
            obtain ⟨_, h3, cur, hcur⟩ := row_ty M2.out.ready hk
            exact old6 k h3 (ne_of_obj hcur hrun2.out (by simp [runObj])) fun h => M2.out.apart.1 k h hk
          have q5 : w6.cell? ⟨R, 4, none⟩ = some (.slice boy A'.p.ready.length cpy) := by unfold World.cell?; rw [hrun6, ← hyv]; rfl
          rw [hyv] at hfy ry6
          clear q0 q1 g5 own5 own4 hR5
          replace hrun6 := Keep.mk hrun6
          replace old6 := Keep.mk old6
          replace went6 := Keep.mk went6
          replace bw := Keep.mk bw
          replace ry6 := Keep.mk ry6
          replace S6 := Keep.mk S6
          replace hyv := Keep.mk hyv
          replace N4 := Keep.mk N4
          replace B4 := Keep.mk B4
          replace old5 := Keep.mk old5
          replace tyw := Keep.mk tyw
          replace ltw := Keep.mk ltw
          replace z4 := Keep.mk z4
          replace z6 := Keep.mk z6
          replace sz5 := Keep.mk sz5
          replace b5 := Keep.mk b5
          replace n4 := Keep.mk n4
          repeat (first
            | refine y_go rfl ?_
            | (refine y_region ?_; simp only [rg, Nat.reduceAdd, List.range, List.range.loop])
            | (refine y_nw rfl (by rfl) rfl (by exact nx rfl) (fun dd hS K hK => ?_); go_simp; refine hK _ _ _ ?_; clear hK K hS dd; simp only [recOf]; try walk_nrm)
            | (refine y_unwanted rfl (by rfl) ?_; try walk_nrm) | refine y_condT rfl ?_ | refine y_condF rfl ?_
            | refine y_block ?_ | refine y_label ?_ | refine y_ret ?_ | refine y_end ?_)
          have N7 := newO w6 (.cells #[.int .i64 L.length] 3)
          have n7 := cells_new w6 [.int .i64 L.length] 3
          generalize w6.alloc (.cells #[.int .i64 L.length] 3) = w7 at N7 n7 ⊢
          have z7 := N7.size
          have B7 : Bigger w6 w7 := ⟨by omega, N7.old⟩
          have own7 := row_later ry6.out fun k hk => B7.old k (row_ty ry6.out hk).2.1
          have hwl' := hwl.out
          have hrl2' := hrl2.out
          refine y_append (size := 1) (bytes := 8) rfl (by rfl) rfl rfl Try.underlying24 hi hz0 hz1 hz2' rfl (by decide) 0 rfl own7 rfl rfl n7 (fun x hx => by simp at hx; rcases hx with rfl; rfl) (by unfold maxLen; omega) (by omega) (Nat.zero_le _) hfy.out ?_
          intro readyv' w8 own8 g8 _ b8
          have sz8 := g8.size
          have old8 : ∀ b, b < w6.heap.size → A'.readyv.ownBlock ≠ some b → w8.heap[b]? = w6.heap[b]? := fun b hb hl => (g8.block b (by omega) (fun h => hl (by rw [hyv.out]; exact h.symm))).trans (B7.old b hb)
          have := z4.out; have := z6.out; have := sz5.out
          have hR8 : w8.heap[R]? = some (.cells #[A'.thv, .map (some A'.mb), A'.logv, .slice bo1 (A'.p.went.length + 1) cp1, A'.readyv, A'.fellv, .bool A'.stops] 200) := (old8 R (by have := hRlt.out; omega) (fun h => by
            obtain ⟨_, _, cur, hcur⟩ := row_ty M2.out.ready h
            exact ne_of_obj hrun2.out hcur (by simp [runObj]) rfl)).trans hrun6.out
          have q5 : w8.cell? ⟨R, 4, none⟩ = some (.slice boy A'.p.ready.length cpy) := by unfold World.cell?; rw [hR8, ← hyv.out]; rfl
          obtain ⟨bo2, cp2, rfl⟩ := row_slice own8
          walk_nrm
          replace own8 := Keep.mk own8
          replace g8 := Keep.mk g8
          replace b8 := Keep.mk b8
          replace sz8 := Keep.mk sz8
          replace old8 := Keep.mk old8
          replace hR8 := Keep.mk hR8
          replace own7 := Keep.mk own7
          replace B7 := Keep.mk B7
          replace N7 := Keep.mk N7
          replace n7 := Keep.mk n7
          replace z7 := Keep.mk z7
          repeat (first
            | refine y_go rfl ?_
            | (refine y_region ?_; simp only [rg, Nat.reduceAdd, List.range, List.range.loop])
            | (refine y_nw rfl (by rfl) rfl (by exact nx rfl) (fun dd hS K hK => ?_); go_simp; refine hK _ _ _ ?_; clear hK K hS dd; simp only [recOf]; try walk_nrm)
            | (refine y_unwanted rfl (by rfl) ?_; try walk_nrm) | refine y_condT rfl ?_ | refine y_condF rfl ?_
            | refine y_block ?_ | refine y_label ?_ | refine y_ret ?_ | refine y_end ?_)
          replace own8 := Keep.out own8
          replace g8 := Keep.out g8
          replace b8 := Keep.out b8
          replace sz8 := Keep.out sz8
          replace old8 := Keep.out old8
          replace hR8 := Keep.out hR8
          replace own7 := Keep.out own7
          replace B7 := Keep.out B7
          replace N7 := Keep.out N7
          replace n7 := Keep.out n7
          replace z7 := Keep.out z7
          refine y_storeC (vs := #[.slice bo2 (A'.p.ready.length + 1) cp2]) rfl (by rfl) rfl rfl rfl rfl rfl hR8 (by first | kernel_rfl | rfl) (Nat.le_of_ble_eq_true rfl) (by simp [Value.oneCell']) (Cfg.Free.cells hfR.out) (fun w9 S9 => ?_)
          try walk_nrm
          have z9 := S9.size
          have old9 : ∀ b, b < w6.heap.size → b ≠ R → A'.readyv.ownBlock ≠ some b → w9.heap[b]? = w6.heap[b]? := fun b hb h1 h2 => (S9.other b h1).trans (old8 b hb h2)
          have bry : ∀ b, (Value.slice bo2 (A'.p.ready.length + 1) cp2).ownBlock = some b → A'.readyv.ownBlock = some b ∨ w6.heap.size ≤ b := fun b hb => by
            rcases b8 with e | e
            · left; rw [hyv.out]; exact Eq.trans e.symm hb
            · rw [e] at hb; have := Option.some.inj hb; exact .inr (by omega)
          have went9 : w9.ownsRow 0 3 1 (.slice bo1 (A'.p.went.length + 1) cp1) (A'.p.went.length + 1) (ints A'.p.went ++ [.int .i64 jj]) := row_later went6.out fun k hk => by
            obtain ⟨_, h3, cur, hcur⟩ := row_ty went6.out hk
            refine old9 k h3 (ne_of_obj hcur hrun6.out (by simp)) fun h => ?_
            rcases bw.out k hk with h4 | ⟨h4, _⟩
            · exact M2.out.apart.1 k h4 h
            · have := (row_ty M2.out.ready h).2.1; omega
          have ready9 : w9.ownsRow 0 3 1 (.slice bo2 (A'.p.ready.length + 1) cp2) (A'.p.ready.length + 1) (ints A'.p.ready ++ [.int .i64 L.length]) := row_later own8 fun k hk => S9.other k fun e => by
            obtain ⟨_, _, cur, hcur⟩ := row_ty own8 hk
            exact ne_of_obj hcur hR8 (by simp) e
          have old29 : ∀ b, b < w2'.heap.size → b ≠ R → A'.wentv.ownBlock ≠ some b → A'.readyv.ownBlock ≠ some b → w9.heap[b]? = w2'.heap[b]? := fun b hb h1 h2 h3 => (old9 b (by omega) h1 h3).trans (old6.out b hb h1 h2)
          have M9 : GMem (A'.turned jj L.length (.slice bo1 (A'.p.went.length + 1) cp1) (.slice bo2 (A'.p.ready.length + 1) cp2) w2'.heap.size w9.heap.size) none w9 :=
            GMem.turned (mid := w6.heap.size) M2.out hwl.out hrl2.out (by omega) (fun b hb h1 => old29 b hb (by rw [← hR'.out]; exact h1)) (by rw [hR'.out]; exact S9.is) went9 ready9 bw.out bry
          obtain ⟨r', hr'⟩ : ∃ r', r = r' + 1 := ⟨r - 1, by have := hr.out; have := hw.out; omega⟩
          have hwr := hr.out
          rw [hr'] at B' hwr
          obtain ⟨oR, _, _, _, _, o3, o4, _, _⟩ := M'.out.owns
          rw [hR'.out] at oR
          have I9 : C.I kap' s' A'.p (A'.turned jj L.length (.slice bo1 (A'.p.went.length + 1) cp1) (.slice bo2 (A'.p.ready.length + 1) cp2) w2'.heap.size w9.heap.size).own w9 := C.stable B'.out.inv (Nat.le_trans B2.out.size (by omega)) fun b hb ho =>
            ⟨(old29 b (Nat.lt_of_lt_of_le hb B2.out.size) (fun e => ho (e ▸ oR)) (fun e => ho (o3 b e)) fun e => ho (o4 b e)).trans (B2.out.old b hb), fun h => h.elim ho fun h => by have := B2.out.size; omega⟩
          have B9 : Board Fin C (r' + 1) (A'.turned jj L.length (.slice bo1 (A'.p.went.length + 1) cp1) (.slice bo2 (A'.p.ready.length + 1) cp2) w2'.heap.size w9.heap.size) kap' s' gs' w9 := ⟨M9, B'.out.n0, B'.out.on, I9, B'.out.pr⟩
          have H9 : Held kp (A'.turned jj L.length (.slice bo1 (A'.p.went.length + 1) cp1) (.slice bo2 (A'.p.ready.length + 1) cp2) w2'.heap.size w9.heap.size) w9 := fun b o hb => by
            obtain ⟨h1, h2, h3⟩ := H'.out b o hb
            have h4 := B2.out.is h1
            refine ⟨(old29 b (lt_of_get h4) (ne_of_obj h4 hrun2.out fun e => (h2.cells _ _ _ e).1 rfl) (fun h => ?_) fun h => ?_).trans h4, h2, .inl h3⟩
            · obtain ⟨_, _, cur, hcur⟩ := row_ty M2.out.went h
              exact ne_of_obj h4 hcur (fun e => (h2.cells _ _ _ e).2.2.2.2.2.2 rfl) rfl
            · obtain ⟨_, _, cur, hcur⟩ := row_ty M2.out.ready h
              exact ne_of_obj h4 hcur (fun e => (h2.cells _ _ _ e).2.2.2.2.2.2 rfl) rfl
          have hgo0 := goes_turn (gm := gm) (os := os) (out := out) B9 H9 hjn.out hst.out hpk.out (by have := hre.out.lens.1; have := hwl.out; show A'.p.log.length < 65536; omega)
          have hgo : CallsX (tokenJ Try.prog Fin) 173 #[.pointer (some ⟨A'.tb jj, 0, none⟩)] (cfgOf A' none gs' gm os out) w9 _ := hgo0
          clear hgo0
          clear B9 H9 I9 M9 old29 ready9 went9 bry old9 S9 z9 old8 hR8 own8 g8 b8 sz8 own7 B7 N7 n7 z7 q5 i0 hi hz0 hz1 hz2'
          replace hgo := Keep.mk hgo
          replace hwr := Keep.mk hwr
          repeat (first
            | refine y_go rfl ?_
            | (refine y_region ?_; simp only [rg, Nat.reduceAdd, List.range, List.range.loop])
            | (refine y_nw rfl (by rfl) rfl (by exact nx rfl) (fun dd hS K hK => ?_); go_simp; refine hK _ _ _ ?_; clear hK K hS dd; simp only [recOf]; try walk_nrm)
            | (refine y_unwanted rfl (by rfl) ?_; try walk_nrm) | refine y_condT rfl ?_ | refine y_condF rfl ?_
            | refine y_block ?_ | refine y_label ?_ | refine y_ret ?_ | refine y_end ?_)
          refine y_callR rfl (by rfl) rfl rfl Try.func173 (by kernel_rfl) (by kernel_rfl) (hgo.out) (by simp only [List.map_toArray, List.map_cons, List.map_nil] <;> rfl) ?_
          rintro v σ'' w10 ⟨rfl, A2, κ', s2, g', x, rfl, B10, H10, hx, hp2, hH⟩
          have hre' : Go.TX.Reach picks (Begun bs.length cv0) A2.p := by
            have h := Go.TX.Reach.turn hre.out (j := jj) (a := ac) (s := x) (by rw [hL.out]; exact hLne) (by rw [hL.out]; exact hj.out.symm) hst.out hx
            rw [hL.out] at h
            rw [hp2]
            exact h
          have hwent : A2.p.went.length = A'.p.went.length + 1 := by
            rw [hp2]
            show (A'.p.went ++ [jj]).length = _
            simp
          have hh1 : A2.n0 = A'.n0 := hH.n0
          have hh2 : A2.R = A'.R := hH.R
          have hh3 : A2.cells = A'.cells := hH.cells
          replace B10 := Keep.mk B10
          replace H10 := Keep.mk H10
          replace hre' := Keep.mk hre'
          replace hwent := Keep.mk hwent
          replace hh1 := Keep.mk hh1
          replace hh2 := Keep.mk hh2
          replace hh3 := Keep.mk hh3
          clear hp2 hH
          walk_nrm
          repeat (first
            | refine y_go rfl ?_
            | (refine y_region ?_; simp only [rg, Nat.reduceAdd, List.range, List.range.loop])
            | (refine y_nw rfl (by rfl) rfl (by exact nx rfl) (fun dd hS K hK => ?_); go_simp; refine hK _ _ _ ?_; clear hK K hS dd; simp only [recOf]; try walk_nrm)
            | (refine y_unwanted rfl (by rfl) ?_; try walk_nrm) | refine y_condT rfl ?_ | refine y_condF rfl ?_
            | refine y_block ?_ | refine y_label ?_ | refine y_ret ?_ | refine y_end ?_)
          replace B10 := Keep.out B10
          replace H10 := Keep.out H10
          replace hre' := Keep.out hre'
          replace hwent := Keep.out hwent
          replace hh1 := Keep.out hh1
          replace hh2 := Keep.out hh2
          replace hh3 := Keep.out hh3
          replace IH := Keep.out IH
          replace hwr := Keep.out hwr
          replace hn0 := Keep.out hn0
          replace hR' := Keep.out hR'
          replace hcl := Keep.out hcl
          refine IH _ _ _ _ (by omega) ⟨A2, setAt kap' jj κ', s2, setAt gs' jj g', by omega, rfl, B10, H10, hre', hh1.trans hn0, hh2.trans hR', hh3.trans hcl, ⟨rfl, rfl, rfl, rfl, rfl, trivial⟩⟩
end
end Go.Proofs.Ytcibnfjpagmdaaa
