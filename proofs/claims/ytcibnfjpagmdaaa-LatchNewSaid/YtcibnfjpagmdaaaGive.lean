/- The token's laws that the holder's communications, go statements and the return go by. -/
import Derived.Test.YtcibnfjpagmdaaaToken
namespace Go.TX
open Go.Conc
open Go.ConcN (sumTo upd sumTo_upd upd_ne upd_same)

section
variable {P : Program} {Fin : Machine → Trace → Prop} {σ : Cfg} {g g₂ : Goroutine} {w : World}

theorem cell?_setChan {w : World} {c cap : Nat} {buf : Array Value} {cl tm : Bool} {a b : Nat} (hc : w.heap[c]? = some (.chan cap buf cl a b tm)) {cap' : Nat} {buf' : Array Value} {cl' tm' : Bool} {a' b' : Nat} (p : Addr) :
    (w.setChan c cap' buf' cl' a' b' tm').cell? p = w.cell? p := by
  by_cases h : c = p.block
  · subst h
    have h1 := heap_setChan_self w hc cap' buf' cl' a' b' tm'
    simp only [World.cell?, h1, hc]
  · simp only [World.cell?, heap_setChan_ne w cap' buf' cl' a' b' tm' h]

/-- The seats behind a gift of h's to j. -/
def Cfg.gave (σ : Cfg) (j : Nat) (oS : Option SeatX) : Cfg := { σ with h := j, seat := upd (upd σ.seat j none) σ.h oS }
/-- The configuration behind a go statement of the holder's. -/
def Cfg.hired (σ : Cfg) (s : SeatX) : Cfg := { σ with n := σ.n + 1, seat := upd σ.seat σ.n (some s) }

theorem gave_seat {j x : Nat} {oS : Option SeatX} (h1 : x ≠ σ.h) (h2 : x ≠ j) : (σ.gave j oS).seat x = σ.seat x := by
  show upd (upd σ.seat j none) σ.h oS x = _; rw [upd_ne _ _ h1, upd_ne _ _ h2]
theorem gave_seat_j {j : Nat} {oS : Option SeatX} (h : j ≠ σ.h) : (σ.gave j oS).seat j = none := by
  show upd (upd σ.seat j none) σ.h oS j = _; rw [upd_ne _ _ h, upd_same]
theorem gave_seat_h {j : Nat} {oS : Option SeatX} : (σ.gave j oS).seat σ.h = oS := upd_same _ _ _
theorem gave_St {j : Nat} {oS : Option SeatX} : (σ.gave j oS).St = upd (upd σ.St j none) σ.h (oS.map SeatX.S) := by
  funext x
  show ((upd (upd σ.seat j none) σ.h oS) x).map SeatX.S = _
  by_cases e : x = σ.h
  · subst e; rw [upd_same, upd_same]
  · rw [upd_ne _ _ e, upd_ne _ _ e]
    by_cases e' : x = j
    · subst e'; rw [upd_same, upd_same]; rfl
    · rw [upd_ne _ _ e', upd_ne _ _ e']; rfl

/-- What is known of the giver behind its gift: it is on its way to its seat; or it only leaves. -/
def AfterX (P : Program) (σ : Cfg) (w : World) (g : Goroutine) : Option SeatX → Prop
  | none => 0 < σ.h ∧ ∃ n, QuitsD P n 0 g
  | some s => (∃ n, OnWay P (σ.h == 0) s n g) ∧ s.K w ∧ (∃ k, w.heap[s.c]? = some (.chan 0 #[] false k k false)) ∧ ∀ i s', σ.seat i = some s' → s'.c ≠ s.c

theorem AfterX.at {oS : Option SeatX} (h : AfterX P σ w g oS) (d : Nat) : AfterX P σ (w.at d) g oS := by
  cases oS <;> exact h

theorem TRing.pass {T T' : Trace} {gs gs' : Array Goroutine} {q : Nat → Nat} (R : TRing P σ T gs w q) {j k : Nat} {sj : SeatX} (hj : σ.seat j = some sj) (hjh : j ≠ σ.h) (hdl : σ.dl = 0)
    (hc : w.heap[sj.c]? = some (.chan 0 #[] false k k false)) {H' : Goroutine} (hsz : gs'.size = gs.size) (hoth : ∀ x, x ≠ σ.h → x ≠ j → gs'[x]? = gs[x]?) (hH : gs'[σ.h]? = some H') (hDeaf : ∀ x, Deaf T' x = Deaf T x)
    {oS : Option SeatX} (hafter : AfterX P σ w H' oS) (hpast : PastX (upd (upd σ.St j none) σ.h (oS.map SeatX.S)) j 0 T') :
    ∃ q', TRing P (σ.gave j oS) T' gs' (w.setChan sj.c 0 #[] false (k + 1) (k + 1) false) q' := by
  have hd0 : Deaf T σ.h = 0 := hdl ▸ R.past.deaf
  have hcell : ∀ p, (w.setChan sj.c 0 #[] false (k + 1) (k + 1) false).cell? p = w.cell? p := cell?_setChan hc
  obtain ⟨nh, hidle⟩ : ∃ nh, IdleX P T' σ.h nh H' oS := by
    cases oS with
    | none => obtain ⟨h0, n, hq⟩ := hafter; exact ⟨n, h0, by rw [hDeaf, hd0]; exact hq⟩
    | some s => obtain ⟨⟨n, ho⟩, _⟩ := hafter; exact ⟨n + 1, .inr ⟨n, rfl, ho⟩⟩
  have hseat : ∀ i s, (σ.gave j oS).seat i = some s → (i = σ.h ∧ oS = some s) ∨ (i ≠ σ.h ∧ i ≠ j ∧ σ.seat i = some s) := by
    intro i s e
    by_cases e1 : i = σ.h
    · subst e1; rw [gave_seat_h] at e; exact .inl ⟨rfl, e⟩
    · by_cases e2 : i = j
      · subst e2; rw [gave_seat_j hjh] at e; cases e
      · rw [gave_seat e1 e2] at e; exact .inr ⟨e1, e2, e⟩
  refine ⟨upd q σ.h nh, hsz.trans R.size, fun x y hx hy => ?_, fun i s e => ?_, fun i s e p hp => ?_, fun i i' s s' e e' hcc => ?_, fun x hx => by rw [hDeaf]; exact R.above x hx, gave_seat_j hjh, fun i s e => ?_, by rw [gave_St]; exact hdl ▸ hpast, R.io⟩
  · have hx' : x ≠ j := hx
    by_cases e : x = σ.h
    · subst e
      rw [hH] at hy
      obtain rfl := Option.some.inj hy
      rw [upd_same, gave_seat_h]; exact hidle
    · rw [hoth x e hx'] at hy
      rw [upd_ne q nh e, gave_seat e hx']
      have hi := R.idle x y e hy
      cases es : σ.seat x with
      | none => rw [es] at hi; exact ⟨hi.1, by rw [hDeaf]; exact hi.2⟩
      | some s' => rw [es] at hi; exact hi
  · rcases hseat i s e with ⟨_, rfl⟩ | ⟨_, _, e'⟩
    · obtain ⟨_, _, ⟨k', hk'⟩, hne⟩ := hafter
      exact ⟨k', by rw [heap_setChan_ne w _ _ _ _ _ _ (hne j sj hj)]; exact hk'⟩
    · obtain ⟨k', hk'⟩ := R.chans i s e'
      by_cases ec : sj.c = s.c
      · exact ⟨k + 1, by rw [← ec]; exact heap_setChan_self w hc _ _ _ _ _ _⟩
      · exact ⟨k', by rw [heap_setChan_ne w _ _ _ _ _ _ ec]; exact hk'⟩
  · rw [hcell]
    rcases hseat i s e with ⟨_, rfl⟩ | ⟨_, _, e'⟩
    · exact hafter.2.1 p hp
    · exact R.keep i s e' p hp
  · rcases hseat i s e with ⟨rfl, rfl⟩ | ⟨_, _, e1⟩ <;> rcases hseat i' s' e' with ⟨rfl, h2⟩ | ⟨_, _, e2⟩
    · rfl
    · exact absurd hcc.symm (hafter.2.2.2 i' s' e2)
    · subst h2; exact absurd hcc (hafter.2.2.2 i s e1)
    · exact R.inj i i' s s' e1 e2 hcc
  · rcases hseat i s e with ⟨rfl, _⟩ | ⟨_, _, e1⟩
    · have := (Array.getElem?_eq_some_iff.1 hH).1
      have := R.size
      show σ.h < σ.n
      omega
    · exact R.inn i s e1

theorem TRing.setH {T : Trace} {gs : Array Goroutine} {q : Nat → Nat} (R : TRing P σ T gs w q) (x : Goroutine) : TRing P σ T (gs.setIfInBounds σ.h x) w q :=
  ⟨by simpa using R.size, fun y gy hy hg => by rw [Array.getElem?_setIfInBounds_ne (fun e => hy e.symm)] at hg; exact R.idle y gy hy hg, R.chans, R.keep, R.inj, R.above, R.hold, R.inn, R.past, R.io⟩

theorem noEv {i : Nat} {fn : FuncId} {pos : String} : MemOp.ofEvents i fn pos #[] = #[] := by simp [MemOp.ofEvents]

/-- THE HOLDER STANDS AT A SEND ON j's CHANNEL: on whatever tape the token comes to j, served with what was sent. -/
theorem X_give {j : Nat} {sj : SeatX} {v z' : Value} (hj : σ.seat j = some sj) (hjh : j ≠ σ.h) (hdl : σ.dl = 0) (hrun : g.status = .running)
    (hsend : ∀ w, stepG P (σ.h == 0) g w = .comm g₂ #[scase sj.c v z'] true .send w #[]) (oS : Option SeatX) (hafter : AfterX P σ w (Go.Conc.served g₂ undef) oS)
    (hX : ∀ k, X P Fin (σ.gave j oS) (Go.Conc.served sj.g v) (w.setChan sj.c 0 #[] false (k + 1) (k + 1) false)) : X P Fin σ g w := by
  intro gs sl T q d R hg
  suffices H : ∀ (μ : Nat) (gs : Array Goroutine) (sl : Option (Nat × Nat)) (T : Trace) (q : Nat → Nat) (d : Nat) (pk : Bool), sumTo σ.n q + (if pk then 0 else 1) = μ → TRing P σ T gs (w.at d) q → gs[σ.h]? = some (if pk then parked g₂ #[scase sj.c v z'] .send else g) → (pk = true → 0 < q j) →
      Ev P Fin (crowd gs (w.at d) sl) T from H _ gs sl T q d false rfl R hg (by simp)
  clear R hg gs sl T q d
  intro μ
  induction μ using Nat.strongRecOn with
  | _ μ ih =>
    intro gs sl T q d pk hμ R hg hpk
    have hlth : σ.h < gs.size := (Array.getElem?_eq_some_iff.1 hg).1
    obtain ⟨gj, hgj⟩ : ∃ gj, gs[j]? = some gj := ⟨gs[j]'(R.size ▸ R.inn j sj hj), Array.getElem?_eq_getElem _⟩
    have hSj : SitsX P (j == 0) sj (q j) gj := by have := R.idle j gj hjh hgj; rwa [hj] at this
    have hsome : ∃ (i : Nat) (g : Goroutine), gs[i]? = some g ∧ g.status = .running := by
      cases pk with
      | false => exact ⟨σ.h, g, hg, hrun⟩
      | true => exact ⟨j, gj, hgj, hSj.status.elim (·.1) (fun z => by have := hpk rfl; omega)⟩
    obtain ⟨i, gi, d', sl', hi, hgi, hst⟩ := crowd_pick (P := P) (w := w.at d) (sl := sl) (R.awake hg (by cases pk <;> simp [hrun, parked])) hsome
    rw [at_at'] at hst
    have Rd := R.at d'
    rw [at_at'] at Rd
    obtain ⟨k, hc⟩ := Rd.chans j sj hj
    -- BEHIND EITHER MEETING
    have fin : ∀ (gs' : Array Goroutine) (sl' : Option (Nat × Nat)), gs'.size = gs.size → (∀ x, x ≠ σ.h → x ≠ j → gs'[x]? = gs[x]?) → gs'[σ.h]? = some (Go.Conc.served g₂ undef) → gs'[j]? = some (Go.Conc.served sj.g v) →
        ∀ fh ph fj pj, Ev P Fin (crowd gs' ((w.at d').setChan sj.c 0 #[] false (k + 1) (k + 1) false) sl') (T ++ met σ.h j fh ph fj pj sj.c k 0) := by
      intro gs' sl' hsz' hoth hH hJ fh ph fj pj
      obtain ⟨q', R'⟩ := Rd.pass (oS := oS) hj hjh hdl hc hsz' hoth hH (fun x => Deaf_quiet (met_quiet σ.h j fh ph fj pj sj.c k 0 x)) (hafter.at d')
        (PastX.give (hdl ▸ Rd.past) (St_none R.hold) hjh (St_some hj) (fun S e l hl => by obtain ⟨s, _, rfl⟩ := Option.map_eq_some_iff.1 e; exact SeatX.S_mem s l hl) fh ph fj pj k 0)
      exact hX k gs' sl' _ q' d' R' hJ
    by_cases e : i = σ.h
    · -- the holder's step
      subst e
      cases pk with
      | true => rw [hg] at hi; obtain rfl := Option.some.inj hi; cases hgi
      | false =>
        obtain rfl : gi = g := by rw [hg] at hi; exact (Option.some.inj hi).symm
        have hoff : ∀ (x : Nat) (y : Goroutine), x ≠ j → (gs.setIfInBounds σ.h ph)[x]? = some y → offersAt y sj.c false = [] := by
          intro x y hxj hy
          rcases getElem?_stand gs σ.h x y hy with ⟨_, rfl⟩ | ⟨hx, hy'⟩
          · exact offersAt_ph _ _
          · exact Rd.noRecv hx hy' fun s' hs' hc' => hxj (R.inj x j s' sj hs' hj hc')
        rcases hSj with ⟨hq0, rfl⟩ | ⟨kk, hq, hG⟩
        · -- j is parked: the meeting
          have hp : partners (gs.setIfInBounds σ.h ph) sj.c false = [(j, 0)] := by
            rw [partners_one (stand_get hjh hgj) fun x y hxj hy => hoff x y hxj hy, offersAt_parked_recv, if_pos rfl]; rfl
          refine Ev.step (hst.trans (crowd_send_meets (sl := sl') hi (hsend _) hc hjh hgj hp)) ?_
          rw [noEv, Array.empty_append]
          refine fin _ sl' (by simp) (fun x hx hxj => by rw [Array.getElem?_setIfInBounds_ne (fun z => hx z.symm), Array.getElem?_setIfInBounds_ne (fun z => hxj z.symm)]) (Array.getElem?_setIfInBounds_self_of_lt (by simpa using hlth)) ?_ _ _ _ _
          rw [Array.getElem?_setIfInBounds_ne (fun z => hjh z.symm), Array.getElem?_setIfInBounds_self_of_lt (Array.getElem?_eq_some_iff.1 hgj).1, finishComm_recv]; rfl
        · -- j is on its way: the holder is parked at its send
          have hjr : gj.status = .running := hG.status
          have hp : partners (gs.setIfInBounds σ.h ph) sj.c false = [] := partners_nil fun x y hy => by
            by_cases hxj : x = j
            · subst hxj
              rw [stand_get hjh hgj] at hy
              obtain rfl := Option.some.inj hy
              exact offersAt_of_not_blocked (by rw [hjr]; simp) _ _
            · exact hoff x y hxj hy
          have hw : ∀ cc ∈ #[scase sj.c v z'], NoWays (w.at d') (gs.setIfInBounds σ.h ph) cc := by
            intro cc hcc
            simp only [List.mem_toArray, List.mem_cons, List.not_mem_nil, or_false] at hcc
            subst hcc
            exact ways_send_none hc (Nat.le_refl _) hp
          refine Ev.step (hst.trans (crowd_waits (sl := sl') hi (hsend _) hw)) ?_
          rw [noEv, Array.append_empty]
          exact ih (sumTo σ.n q + 0) (by simp at hμ; omega) _ sl' T q d' true (by simp) (Rd.setH _) (Array.getElem?_setIfInBounds_self_of_lt hlth) (fun _ => by omega)
    · by_cases ej : i = j ∧ pk = true ∧ AtInX P (i == 0) sj gi
      · -- j COMES TO ITS RECEIVE AND MEETS THE PARKED HOLDER
        obtain ⟨rfl, rfl, hat⟩ := ej
        simp only [if_true] at hg
        have hp : partners (gs.setIfInBounds i ph) sj.c true = [(σ.h, 0)] := by
          rw [partners_one (stand_get (Ne.symm hjh) hg) fun x y hxh hy => by
            rcases getElem?_stand gs i x y hy with ⟨_, rfl⟩ | ⟨_, hy'⟩
            · exact offersAt_ph _ _
            · exact Rd.noSend hxh hy' _]
          simp [offersAt_parked_send]
        refine Ev.step (hst.trans (crowd_recv_meets (sl := sl') hi (hat.2 _) hc (Ne.symm hjh) hg hp)) ?_
        rw [noEv, Array.empty_append]
        refine fin _ sl' (by simp) (fun x hx hxj => by rw [Array.getElem?_setIfInBounds_ne (fun z => hxj z.symm), Array.getElem?_setIfInBounds_ne (fun z => hx z.symm)]) ?_ ?_ _ _ _ _
        · rw [Array.getElem?_setIfInBounds_ne hjh, Array.getElem?_setIfInBounds_self_of_lt hlth, finishComm_send]
        · rw [Array.getElem?_setIfInBounds_self_of_lt (by simpa using (Array.getElem?_eq_some_iff.1 hgj).1), finishComm_recv]; rfl
      · -- A BYSTANDER's STEP
        obtain ⟨gs', ops, q', hrt, hh', hqo, hq0, R', hlt⟩ := Rd.by_step (sl := sl') hi e hgi hg
          (by cases pk with
            | false => exact again_of_running (.inl hrun) _
            | true => exact again_send_open hc)
          (fun s' hs' hat => by
            cases pk with
            | false => exact offersAt_of_not_blocked (by simp [hrun]) _ _
            | true =>
              simp only [if_true]
              rw [offersAt_parked_send, if_neg]
              intro ec
              have hij : i = j := R.inj i j s' sj hs' hj ec.symm
              subst hij
              rw [hj] at hs'
              obtain rfl := Option.some.inj hs'
              exact ej ⟨rfl, rfl, hat⟩)
        refine Ev.step (hst.trans hrt) (ih _ (by omega) gs' sl' _ q' d' pk rfl R' hh' fun hp => ?_)
        subst hp
        by_cases hij : j = i
        · subst hij
          rcases Nat.eq_zero_or_pos (q' j) with h0 | h0
          · exact absurd ⟨rfl, rfl, hq0 sj hj h0⟩ ej
          · exact h0
        · rw [hqo j hij]; exact hpk rfl

/-- A go STATEMENT OF THE HOLDER's: the child is on its way to a seat. -/
theorem X_hire {child g' : Goroutine} {s : SeatX} {m : Nat} (hdl : σ.dl = 0) (hrun : g.status = .running) (hgo : ∀ w, stepG P (σ.h == 0) g w = .spawn g' child w #[]) (hs : OnWay P false s m child) (hK : s.K w)
    (hc : ∃ k, w.heap[s.c]? = some (.chan 0 #[] false k k false)) (hne : ∀ i s', σ.seat i = some s' → s'.c ≠ s.c) (hX : X P Fin (σ.hired s) g' w) : X P Fin σ g w := by
  intro gs sl T q d R hg
  suffices H : ∀ (μ : Nat) (gs : Array Goroutine) (sl : Option (Nat × Nat)) (T : Trace) (q : Nat → Nat) (d : Nat), sumTo σ.n q = μ → TRing P σ T gs (w.at d) q → gs[σ.h]? = some g → Ev P Fin (crowd gs (w.at d) sl) T from H _ gs sl T q d rfl R hg
  clear R hg gs sl T q d
  intro μ
  induction μ using Nat.strongRecOn with
  | _ μ ih =>
    intro gs sl T q d hμ R hg
    obtain ⟨i, gi, d', sl', hi, hgi, hst⟩ := crowd_pick (P := P) (w := w.at d) (sl := sl) (R.awake hg (.inl hrun)) ⟨σ.h, g, hg, hrun⟩
    rw [at_at'] at hst
    have Rd := R.at d'
    rw [at_at'] at Rd
    by_cases e : i = σ.h
    · subst e
      obtain rfl : gi = g := by rw [hg] at hi; exact (Option.some.inj hi).symm
      have hlt : σ.h < gs.size := (Array.getElem?_eq_some_iff.1 hg).1
      have hpush : ((MemOp.ofEvents σ.h gi.frame.fn gi.frame.place #[]).push { g := σ.h, fn := gi.frame.fn, pos := gi.frame.place, act := .go gs.size } |>.push { g := gs.size, fn := child.frame.fn, pos := gi.frame.place, act := .start }) =
          #[{ g := σ.h, fn := gi.frame.fn, pos := gi.frame.place, act := .go gs.size }, { g := gs.size, fn := child.frame.fn, pos := gi.frame.place, act := .start }] := by
        rw [noEv]; rfl
      have hrt := runT_crowd_spawn (P := P) (sl := sl') hg (hgo (w.at d'))
      rw [hpush] at hrt
      refine Ev.step (hst.trans hrt) ?_
      have hsz := R.size
      rw [hsz]
      have hDq : ∀ x, Deaf (T ++ #[{ g := σ.h, fn := gi.frame.fn, pos := gi.frame.place, act := .go σ.n }, { g := σ.n, fn := child.frame.fn, pos := gi.frame.place, act := .start }]) x = Deaf T x := fun x => Deaf_quiet (fun op hop dd => by
        simp only [List.mem_toArray, List.mem_cons, List.not_mem_nil, or_false] at hop
        rcases hop with rfl | rfl <;> rfl)
      have hcn : σ.n ≠ σ.h := by omega
      have hseatn : σ.seat σ.n = none := by
        cases e1 : σ.seat σ.n with
        | none => rfl
        | some s' => have := R.inn _ _ e1; omega
      have hSt : (σ.hired s).St = upd σ.St σ.n (some s.S) := by
        funext x
        show ((upd σ.seat σ.n (some s)) x).map SeatX.S = _
        by_cases e1 : x = σ.n
        · subst e1; rw [upd_same, upd_same]; rfl
        · rw [upd_ne _ _ e1, upd_ne _ _ e1]; rfl
      have hup : ∀ x, x ≠ σ.n → (σ.hired s).seat x = σ.seat x := fun x hx => upd_ne _ _ hx
      have hself : (σ.hired s).seat σ.n = some s := upd_same _ _ _
      refine hX _ sl' _ (upd q σ.n (m + 1)) d' ⟨by simp [hsz]; rfl, fun x y hx hy => ?_, fun i s' e1 => ?_, fun i s' e1 => ?_, fun i i' s1 s2 e1 e2 hcc => ?_, fun x hx => ?_, ?_, fun i s' e1 => ?_, ?_, R.io⟩ ?_
      · by_cases ex : x = σ.n
        · subst ex
          rw [Array.getElem?_push, if_pos (by simp [hsz])] at hy
          obtain rfl := Option.some.inj hy
          rw [upd_same, hself]
          have h0 : (σ.n == 0) = false := by rw [beq_eq_false_iff_ne]; omega
          exact .inr ⟨m, rfl, by rw [h0]; exact hs⟩
        · have hx' : x ≠ σ.h := hx
          rw [Array.getElem?_push, if_neg (by simp [hsz]; exact ex), Array.getElem?_setIfInBounds_ne (fun z => hx' z.symm)] at hy
          rw [upd_ne q _ ex, hup x ex]
          have hi' := R.idle x y hx' hy
          cases e1 : σ.seat x with
          | none => rw [e1] at hi'; exact ⟨hi'.1, by rw [hDq]; exact hi'.2⟩
          | some s' => rw [e1] at hi'; exact hi'
      · by_cases ei : i = σ.n
        · subst ei; rw [hself] at e1; obtain rfl := Option.some.inj e1; exact hc
        · rw [hup i ei] at e1; exact R.chans i s' e1
      · by_cases ei : i = σ.n
        · subst ei; rw [hself] at e1; obtain rfl := Option.some.inj e1; exact hK
        · rw [hup i ei] at e1; exact R.keep i s' e1
      · by_cases ei : i = σ.n <;> by_cases ei' : i' = σ.n
        · omega
        · subst ei; rw [hself] at e1; obtain rfl := Option.some.inj e1; rw [hup i' ei'] at e2; exact absurd hcc.symm (hne i' s2 e2)
        · subst ei'; rw [hself] at e2; obtain rfl := Option.some.inj e2; rw [hup i ei] at e1; exact absurd hcc (hne i s1 e1)
        · rw [hup i ei] at e1; rw [hup i' ei'] at e2; exact R.inj i i' s1 s2 e1 e2 hcc
      · rw [hDq]; exact R.above x (by have : σ.n + 1 ≤ x := hx; omega)
      · show (σ.hired s).seat σ.h = none
        rw [hup σ.h (Ne.symm hcn)]; exact R.hold
      · show i < σ.n + 1
        by_cases ei : i = σ.n
        · omega
        · rw [hup i ei] at e1; have := R.inn i s' e1; omega
      · rw [hSt]
        exact hdl ▸ PastX.hire (hdl ▸ R.past) (St_none R.hold) hcn (St_none hseatn) (R.above _ (Nat.le_refl _)) (SeatX.S_mem s) _ _ _
      · show ((gs.setIfInBounds σ.h g').push child)[σ.h]? = some g'
        rw [Array.getElem?_push, if_neg (by simp; omega)]
        exact Array.getElem?_setIfInBounds_self_of_lt hlt
    · obtain ⟨gs', ops, q', hrt, hh', _, _, R', hlt⟩ := Rd.by_step (sl := sl') hi e hgi hg (again_of_running (.inl hrun) _) (fun s _ _ => offersAt_of_not_blocked (by rw [hrun]; simp) _ _)
      exact Ev.step (hst.trans hrt) (ih _ (by rw [← hμ]; exact hlt) gs' sl' _ q' d' rfl R' hh')
end

/-- What is wanted of the whole run: the next step is the return, all is well. -/
def Goal (P : Program) (Post : Value → World → Prop) (m : Machine) (T : Trace) : Prop := ∃ o w' ops, stepT P m = (.ended o w', ops) ∧ Good P Post m o w' (T ++ ops)

theorem touch_of_mute {P : Program} {n d : Nat} {g : Goroutine} (h : QuitsD P n d g) : g.LeavesIn P n := h.leaves

/-- GOROUTINE 0 STANDS AT THE RETURN, nobody has a seat. -/
theorem X_done {P : Program} {Post : Value → World → Prop} {σ : Cfg} {g : Goroutine} {w : World} {v : Value} (h0 : σ.h = 0) (hs : σ.seat = fun _ => none) (hrun : g.status = .running)
    (hend : ∀ w : World, stepG P true g w = .ended (.done v) w #[]) (hpost : w.os = σ.os → w.output = σ.out → ∀ d, Post v (w.at d)) : X P (Goal P Post) σ g w := by
  obtain ⟨n, h, dl, seat, os, out⟩ := σ
  obtain rfl : h = 0 := h0
  obtain rfl : seat = fun _ => none := hs
  generalize hσ : (Cfg.mk n 0 dl (fun _ => none) os out) = σ at hpost ⊢
  have h0 : σ.h = 0 := by rw [← hσ]
  have hs : σ.seat = fun _ => none := by rw [← hσ]
  intro gs sl T q d R hg
  suffices H : ∀ (μ : Nat) (gs : Array Goroutine) (sl : Option (Nat × Nat)) (T : Trace) (q : Nat → Nat) (d : Nat), sumTo σ.n q = μ → TRing P σ T gs (w.at d) q → gs[σ.h]? = some g → Ev P (Goal P Post) (crowd gs (w.at d) sl) T from H _ gs sl T q d rfl R hg
  clear R hg gs sl T q d
  intro μ
  induction μ using Nat.strongRecOn with
  | _ μ ih =>
    intro gs sl T q d hμ R hg
    obtain ⟨i, gi, d', sl', hi, hgi, hst⟩ := crowd_pick (P := P) (w := w.at d) (sl := sl) (R.awake hg (.inl hrun)) ⟨σ.h, g, hg, hrun⟩
    rw [at_at'] at hst
    have Rd := R.at d'
    rw [at_at'] at Rd
    by_cases e : i = σ.h
    · subst e
      obtain rfl : gi = g := by rw [hg] at hi; exact (Option.some.inj hi).symm
      have hq : ∀ j x, 0 < j → gs[j]? = some x → QuitsD P (q j) (Deaf T j) x := fun j x hj hx => by
        have := R.idle j x (by omega) hx
        rw [hs] at this
        exact this.2
      have hlt : σ.h < gs.size := (Array.getElem?_eq_some_iff.1 hg).1
      have hrunT : runT P (crowd gs (w.at d') sl') σ.h = (.ended (.done v) (w.at d'), #[]) := by
        rw [h0] at hlt hg ⊢
        have hgs : gs[0] = gi := by simpa [Array.getElem?_eq_getElem hlt] using hg
        have hsw := swapAt_of_lt hlt { (default : Goroutine) with status := .finished }
        show runT P { world := w.at d', gs := gs, rest := { timers := #[], alone := none, slice := sl' } } 0 = _
        unfold runT
        simp only [hsw, hgs]
        simp [hend, GStep.es, MemOp.ofEvents]
      refine ⟨0, _, T, rfl, .done v, w.at d', #[], hst.trans hrunT, v, rfl, hpost R.io.1 R.io.2 d', ?_, ?_, ⟨fun x hx => ?_, rfl⟩, fun j x hx hj => ?_⟩
      · simpa using R.past.clean
      · have hp := R.past
        have e1 : σ.St = fun _ => none := by funext x; simp [Cfg.St, hs]
        rw [e1, h0] at hp
        simpa using hp.over
      · have hx' : x ∈ gs.toList.drop 1 := hx
        obtain ⟨j, hj⟩ := List.mem_iff_getElem?.1 hx'
        rw [List.getElem?_drop] at hj
        exact ⟨_, (hq (1 + j) x (by omega) (by simpa using hj)).leaves⟩
      · have hx' : gs[j]? = some x := hx
        refine ⟨q j, ?_⟩
        rw [Array.append_empty]
        exact (hq j x (by omega) hx').hears (w.at d)
    · obtain ⟨gs', ops, q', hrt, hh', _, _, R', hlt⟩ := Rd.by_step (sl := sl') hi e hgi hg (again_of_running (.inl hrun) _) (fun s _ _ => offersAt_of_not_blocked (by rw [hrun]; simp) _ _)
      exact Ev.step (hst.trans hrt) (ih _ (by rw [← hμ]; exact hlt) gs' sl' _ q' d' rfl R' hh')

/-- The configuration at the entry: goroutine 0 alone. -/
def cfg0 (w : World) : Cfg := { n := 1, h := 0, dl := 0, seat := fun _ => none, os := w.os, out := w.output }

/-- FROM THE JUDGEMENT TO THE RUN. -/
theorem X_run {P : Program} {Post : Value → World → Prop} {g : Goroutine} {W : World} (h : X P (Goal P Post) (cfg0 W) g W) :
    ∃ M last o w' t', runNT P (M + 1) (crowd #[g] W none) #[] = (.ended o w', t') ∧ runN P M (crowd #[g] W none) = .next last ∧ step P last = .ended o w' ∧ Good P Post last o w' t' := by
  have R : TRing P (cfg0 W) #[] #[g] (W.at W.drawn) (fun _ => 0) :=
    ⟨rfl, fun i x hi hx => by
      have := (Array.getElem?_eq_some_iff.1 hx).1
      simp at this
      exact absurd this hi, fun _ _ e => (by cases e), fun _ _ e => (by cases e), fun _ _ _ _ e => (by cases e), fun _ _ => rfl, rfl, fun _ _ e => (by cases e), pastX_nil, rfl, rfl⟩
  obtain ⟨N, m', T', hr, o, w', ops, hst, hgood⟩ := h #[g] none #[] (fun _ => 0) W.drawn R rfl
  have hrN : runN P N (crowd #[g] W none) = .next m' := by rw [← runNT_fst P _ _ #[]]; exact congrArg Prod.fst hr
  refine ⟨N, m', o, w', T' ++ ops, ?_, hrN, by unfold step; rw [hst], hgood⟩
  have hr' : runNT P N (crowd #[g] W none) #[] = (.next m', T') := hr
  rw [runNT_add, hr']
  simp only [runNT, hst]

end Go.TX
