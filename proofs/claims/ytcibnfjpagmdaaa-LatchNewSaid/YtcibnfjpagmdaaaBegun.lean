/- The run with one thread more, ahead of its first turn. -/
import Derived.Test.YtcibnfjpagmdaaaSchd
import Derived.Test.YtcibnfjpagmdaaaHire
set_option linter.unusedSimpArgs false
set_option linter.unusedVariables false
set_option maxRecDepth 100000
set_option maxHeartbeats 4000000
namespace Go.Proofs.Ytcibnfjpagmdaaa
open Go.TX Go.Conc Go.RowKit Go.MapKept
open Go.ConcN (upd upd_ne upd_same)

/-- Where a new thread's things lie. -/
structure Fresh where
  rc : Nat
  fc : Nat
  tb : Nat
  wk : Nat
  sd : Nat
  tc : Nat
def GA.begun (A : GA) (N : Fresh) (fv thv' fellv' : Value) (lo hi : Nat) : GA :=
  { A with p := { A.p with nth := A.p.nth + 1 }, tb := setAt A.tb A.p.nth N.tb, wk := setAt A.wk A.p.nth N.wk, sd := setAt A.sd A.p.nth N.sd, tc := setAt A.tc A.p.nth N.tc, rc := setAt A.rc A.p.nth N.rc, fc := setAt A.fc A.p.nth N.fc, fv := setAt A.fv A.p.nth fv, ab := setAt A.ab A.p.nth N.tb, pv := setAt A.pv A.p.nth none, pa := setAt A.pa A.p.nth Entry.zero, thv := thv', fellv := fellv', own := fun b => A.own b ∨ (lo ≤ b ∧ b < hi) }

section
variable {A : GA} {w w1 : World} {N : Fresh} {fv thv' fellv' : Value}

theorem GMem.begun (M : GMem A none w) (h64 : A.p.nth < 64) (old : ∀ b, b < w.heap.size → b ≠ A.R → A.thv.ownBlock ≠ some b → A.fellv.ownBlock ≠ some b → w1.heap[b]? = w.heap[b]?)
    (hR : w1.heap[A.R]? = some (.cells #[thv', .map (some A.mb), A.logv, A.wentv, A.readyv, fellv', .bool A.stops] 200))
    (hrc : w1.heap[N.rc]? = some (.cells #[.pointer (some ⟨A.R, 0, none⟩)] 196)) (hfc : w1.heap[N.fc]? = some (.cells #[fv] 40)) (htb : w1.heap[N.tb]? = some (.cells (thrCells A.R A.p.nth N.wk N.sd none Entry.zero false) 205))
    (hwk : w1.heap[N.wk]? = some (.chan 0 #[] false 0 0 false)) (hsd : w1.heap[N.sd]? = some (.chan 0 #[] false 0 0 false)) (htc : w1.heap[N.tc]? = some (.cells #[.pointer (some ⟨N.tb, 0, none⟩)] 33)) (hne : N.wk ≠ N.sd)
    (lrc : w.heap.size ≤ N.rc) (lfc : w.heap.size ≤ N.fc) (ltb : w.heap.size ≤ N.tb) (lwk : w.heap.size ≤ N.wk) (lsd : w.heap.size ≤ N.sd) (ltc : w.heap.size ≤ N.tc)
    (ths : w1.ownsRow 0 33 1 thv' (A.p.nth + 1) (((List.range A.p.nth).map fun j => .pointer (some ⟨A.tb j, 0, none⟩)) ++ [.pointer (some ⟨N.tb, 0, none⟩)]))
    (fell : w1.ownsRow 0 4 1 fellv' (A.p.nth + 1) (List.replicate A.p.nth (.bool false) ++ [.bool false]))
    (bth : ∀ b, thv'.ownBlock = some b → A.thv.ownBlock = some b ∨ (w.heap.size ≤ b ∧ b ≠ N.tc)) (bfe : ∀ b, fellv'.ownBlock = some b → A.fellv.ownBlock = some b ∨ w.heap.size ≤ b) :
    GMem (A.begun N fv thv' fellv' w.heap.size w1.heap.size) (some A.p.nth) w1 := by
  obtain ⟨oR, omb, oc, o1, o2, o3, o4, o5, oj⟩ := M.owns
  have lt : ∀ {b : Nat} {o : Obj}, w.heap[b]? = some o → b < w.heap.size := fun h => lt_of_get h
  have st : ∀ {b : Nat} {o : Obj}, w.heap[b]? = some o → (∀ x y, o ≠ .cells x 200 y) → (∀ x y, o ≠ .cells x 33 y) → (∀ x y, o ≠ .cells x 4 y) → w1.heap[b]? = some o := fun {b o} hb n1 n2 n3 => by
    refine (old b (lt hb) (ne_of_obj hb M.runs (n1 _ _)) (fun h => ?_) (fun h => ?_)).trans hb
    · obtain ⟨_, _, cur, hcur⟩ := row_ty M.ths h
      exact ne_of_obj hb hcur (n2 _ _) rfl
    · obtain ⟨_, _, cur, hcur⟩ := row_ty M.fell h
      exact ne_of_obj hb hcur (n3 _ _) rfl
  have row : ∀ {e : TypeId} {s : Nat} {v : Value} {n : Nat} {ys : List Value}, w.ownsRow 0 e s v n ys → e ≠ 200 → e ≠ 33 → e ≠ 4 → w1.ownsRow 0 e s v n ys := fun {e s v n ys} hr h1 h2 h3 => row_later hr fun k hk => by
    obtain ⟨_, _, cur, hcur⟩ := row_ty hr hk
    exact (st hcur (fun x y h => h1 (Obj.cells.inj h).2.1) (fun x y h => h2 (Obj.cells.inj h).2.1) (fun x y h => h3 (Obj.cells.inj h).2.1)).trans hcur.symm
  have tcs : ∀ j, j < A.p.nth → w1.heap[A.tc j]? = some (.cells #[.pointer (some ⟨A.tb j, 0, none⟩)] 33) := fun j hj => by
    have h1 := M.tcc j hj
    refine (old _ (lt h1) (ne_of_obj h1 M.runs (by simp [runObj])) (M.apart.2.1 j hj) (fun h => ?_)).trans h1
    obtain ⟨_, _, cur, hcur⟩ := row_ty M.fell h
    exact ne_of_obj h1 hcur (by simp) rfl
  have cs : ∀ {i : Nat}, i < A.p.nth + 1 → i ≠ A.p.nth → i < A.p.nth := fun h1 h2 => by omega
  have un : A.p.st A.p.nth = .unborn := by
    have h1 := (M.born A.p.nth)
    by_cases h : A.p.st A.p.nth = .unborn
    · exact h
    · exact absurd (h1.2 (.inl h)) (Nat.lt_irrefl _)
  have ltm : ∀ j, j < A.p.nth → A.wk j < w.heap.size ∧ A.sd j < w.heap.size := fun j hj => by
    obtain ⟨k1, h1⟩ := M.wkc j hj
    obtain ⟨k2, h2⟩ := M.sdc j hj
    exact ⟨lt h1, lt h2⟩
  unfold GA.begun
  refine { runs := hR, mapo := st M.mapo (by simp) (by simp) (by simp), thr := fun i hi => ?_, wkc := fun i hi => ?_, sdc := fun i hi => ?_, tcc := fun i hi => ?_, rcc := fun i hi => ?_, fcc := fun i hi => ?_, ths := ?_, logs := row M.logs (by decide) (by decide) (by decide), went := row M.went (by decide) (by decide) (by decide), ready := row M.ready (by decide) (by decide) (by decide), fell := ?_, cell := fun c hc => st (M.cell c hc).obj (by simp [cellObj]) (by simp [cellObj]) (by simp [cellObj]), cnc := M.cnc, cnd := M.cnd, stand := fun i a hi hr hs => ?_, born := fun i => ?_, small := ⟨M.small.1, M.small.2.1, M.small.2.2.1, ?_⟩, apart := ⟨M.apart.1, fun i hi => ?_, fun i a hi hr hs hst => ?_⟩, chans := ⟨fun i k hi hk => ?_, fun i k hi hk => ?_⟩, owns := ?_ }
  · by_cases e : i = A.p.nth
    · subst e
      simp only [setAt_same, thrObj, un]
      simpa using htb
    · have h1 := M.thr i (cs hi e)
      simp only [setAt_ne _ _ e, thrObj] at h1 ⊢
      exact st h1 (by simp) (by simp) (by simp)
  · by_cases e : i = A.p.nth
    · subst e; simp only [setAt_same]; exact ⟨0, hwk⟩
    · simp only [setAt_ne _ _ e]; exact (M.wkc i (cs hi e)).imp fun k hk => st hk (by simp) (by simp) (by simp)
  · by_cases e : i = A.p.nth
    · subst e; simp only [setAt_same]; exact ⟨0, hsd⟩
    · simp only [setAt_ne _ _ e]; exact (M.sdc i (cs hi e)).imp fun k hk => st hk (by simp) (by simp) (by simp)
  · by_cases e : i = A.p.nth
    · subst e; simp only [setAt_same]; exact htc
    · simp only [setAt_ne _ _ e]; exact tcs i (cs hi e)
  · by_cases e : i = A.p.nth
    · subst e; simp only [setAt_same]; exact hrc
    · simp only [setAt_ne _ _ e]; exact st (M.rcc i (cs hi e)) (by simp) (by simp) (by simp)
  · by_cases e : i = A.p.nth
    · subst e; simp only [setAt_same]; exact hfc
    · simp only [setAt_ne _ _ e]; exact st (M.fcc i (cs hi e)) (by simp) (by simp) (by simp)
  · have e : (List.range (A.p.nth + 1)).map (fun j => (.pointer (some ⟨setAt A.tb A.p.nth N.tb j, 0, none⟩) : Value)) = ((List.range A.p.nth).map fun j => .pointer (some ⟨A.tb j, 0, none⟩)) ++ [.pointer (some ⟨N.tb, 0, none⟩)] := by
      rw [List.range_succ, List.map_append, List.map_cons, List.map_nil, setAt_same]
      congr 1
      apply List.map_congr_left
      intro x hx
      rw [setAt_ne _ _ (by have := List.mem_range.1 hx; omega)]
    show w1.ownsRow 0 33 1 thv' (A.p.nth + 1) _
    rw [e]; exact ths
  · show w1.ownsRow 0 4 1 fellv' (A.p.nth + 1) (List.replicate (A.p.nth + 1) (.bool false))
    rw [List.replicate_succ']; exact fell
  · have e : i ≠ A.p.nth := fun h => hr (by rw [h])
    obtain ⟨h1, h2, h3, h4, h5⟩ := M.stand i a (cs hi e) (by simp) hs
    simp only [setAt_ne _ _ e]
    exact ⟨h1, h2, h3, h4, fun hst => st (h5 hst) (by simp) (by simp) (by simp)⟩
  · show i < A.p.nth + 1 ↔ A.p.st i ≠ .unborn ∨ some A.p.nth = some i
    have h1 := M.born i
    constructor
    · intro hi
      by_cases e : i = A.p.nth
      · exact .inr (by rw [e])
      · rcases h1.1 (cs hi e) with h | h
        · exact .inl h
        · cases h
    · rintro (h | h)
      · have := h1.2 (.inl h); omega
      · have := Option.some.inj h; omega
  · show A.p.nth + 1 ≤ 64; omega
  · intro h
    have hi' : i < A.p.nth + 1 := hi
    replace h : thv'.ownBlock = some (setAt A.tc A.p.nth N.tc i) := h
    rcases bth _ h with h2 | ⟨h2, h3⟩
    · by_cases e : i = A.p.nth
      · subst e
        rw [setAt_same] at h2
        have := (row_ty M.ths h2).2.1; omega
      · rw [setAt_ne _ _ e] at h2
        exact M.apart.2.1 i (cs hi' e) h2
    · by_cases e : i = A.p.nth
      · subst e; rw [setAt_same] at h3; exact h3 rfl
      · rw [setAt_ne _ _ e] at h2
        have := lt (M.tcc i (cs hi' e)); omega
  · have e : i ≠ A.p.nth := fun h => hr (by rw [h])
    simp only [setAt_ne _ _ e]
    exact M.apart.2.2 i a (cs hi e) (by simp) hs hst
  · intro h
    have hi' : i < A.p.nth + 1 := hi
    have hk' : k < A.p.nth + 1 := hk
    by_cases e : i = A.p.nth <;> by_cases e2 : k = A.p.nth
    · omega
    · subst e; simp only [setAt_same, setAt_ne _ _ e2] at h
      have := (ltm k (cs hk' e2)).1; omega
    · subst e2; simp only [setAt_same, setAt_ne _ _ e] at h
      have := (ltm i (cs hi' e)).1; omega
    · simp only [setAt_ne _ _ e, setAt_ne _ _ e2] at h
      exact M.chans.1 i k (cs hi' e) (cs hk' e2) h
  · intro h
    have hi' : i < A.p.nth + 1 := hi
    have hk' : k < A.p.nth + 1 := hk
    by_cases e : i = A.p.nth <;> by_cases e2 : k = A.p.nth
    · subst e; rw [e2] at h; simp only [setAt_same] at h; exact hne h.symm
    · subst e; simp only [setAt_same, setAt_ne _ _ e2] at h
      have := (ltm k (cs hk' e2)).1; omega
    · subst e2; simp only [setAt_same, setAt_ne _ _ e] at h
      have := (ltm i (cs hi' e)).2; omega
    · simp only [setAt_ne _ _ e, setAt_ne _ _ e2] at h
      exact M.chans.2 i k (cs hi' e) (cs hk' e2) h
  · refine ⟨.inl oR, .inl omb, fun c hc => .inl (oc c hc), fun b hb => ?_, fun b hb => .inl (o2 b hb), fun b hb => .inl (o3 b hb), fun b hb => .inl (o4 b hb), fun b hb => ?_, fun i hi => ?_⟩
    · exact (bth b hb).imp (o1 b) fun h => ⟨h.1, (row_ty ths hb).2.1⟩
    · exact (bfe b hb).imp (o5 b) fun h => ⟨h, (row_ty fell hb).2.1⟩
    · by_cases e : i = A.p.nth
      · subst e
        simp only [setAt_same]
        exact ⟨.inr ⟨ltb, lt_of_get htb⟩, .inr ⟨lwk, lt_of_get hwk⟩, .inr ⟨lsd, lt_of_get hsd⟩, .inr ⟨ltc, lt_of_get htc⟩, .inr ⟨lrc, lt_of_get hrc⟩, .inr ⟨lfc, lt_of_get hfc⟩, fun a hr => absurd rfl hr⟩
      · simp only [setAt_ne _ _ e]
        obtain ⟨h1, h2, h3, h4, h5, h6, h7⟩ := oj i (cs hi e)
        exact ⟨.inl h1, .inl h2, .inl h3, .inl h4, .inl h5, .inl h6, fun a hr hs => .inl (h7 a (by simp) hs)⟩
end

/-- What comes of a thread's beginning. -/
def BeginR (Fin : Machine → Trace → Prop) (C : Client) (m : Nat) (A : GA) (kap : Nat → C.K) (gs : Nat → Goroutine) (gm : Goroutine) (os : Os) (out : Array (Nat × ByteArray)) (kp : Nat → Option Obj) (σ' : Cfg) (w' : World) : Prop :=
  ∃ A' κ' s' g' x, σ' = cfgOf A' none (setAt gs A.p.nth g') gm os out ∧ Board Fin C m A' (setAt kap A.p.nth κ') s' (setAt gs A.p.nth g') w' ∧ Held kp A' w' ∧ x ≠ .unborn ∧ A'.p = ({ A.p with nth := A.p.nth + 1 } : Pub).put A.p.nth x ∧ A'.n0 = A.n0 ∧ A'.R = A.R ∧ A'.cells = A.cells

theorem hired_gave {A : GA} {N : Fresh} {fv thv' fellv' : Value} {lo hi : Nat} {gs : Nat → Goroutine} {gm gm' g : Goroutine} {os : Os} {out : Array (Nat × ByteArray)} (h0 : 0 < A.n0) (hun : A.p.st A.p.nth = .unborn) :
    ((cfgOf A none gs gm os out).hired ⟨N.wk, unitV, g, [(⟨N.tc, 0, none⟩, .pointer (some ⟨N.tb, 0, none⟩)), (⟨N.tb, 2, none⟩, .chan (some N.wk))]⟩).gave (A.n0 + A.p.nth) (some (seatM (A.begun N fv thv' fellv' lo hi) gm' A.p.nth)) = cfgOf (A.begun N fv thv' fellv' lo hi) (some A.p.nth) (setAt gs A.p.nth g) gm' os out := by
  unfold Cfg.gave Cfg.hired cfgOf
  simp only [Cfg.mk.injEq, true_and, and_true]
  refine ⟨rfl, rfl, ?_⟩
  funext x
  by_cases e : x = 0
  · subst e; rw [upd_same]; simp [seatOf]
  · rw [upd_ne _ _ e]
    by_cases e2 : x = A.n0 + A.p.nth
    · subst e2; rw [upd_same]; simp [seatOf, e, GA.begun]; intro; omega
    · rw [upd_ne _ _ e2, upd_ne _ _ e2]
      simp only [seatOf, e, if_false, GA.begun]
      by_cases e3 : A.n0 ≤ x
      · have h4 : x - A.n0 ≠ A.p.nth := by omega
        have h5 : some A.p.nth ≠ some (x - A.n0) := fun h => h4 (Option.some.inj h).symm
        have h6 : x < A.n0 + (A.p.nth + 1) ↔ x < A.n0 + A.p.nth := by omega
        simp [e3, h5, h6, seatT, setAt_ne _ _ h4]
      · simp [e3]

theorem setAt_twice {α : Type} (f : Nat → α) (i : Nat) (u v : α) : setAt (setAt f i u) i v = setAt f i v := by
  funext x; unfold setAt; split <;> rfl

section
variable {Fin : Machine → Trace → Prop} {C : Client} {m : Nat} {A : GA} {kap : Nat → C.K} {s : C.S} {gs : Nat → Goroutine} {gm g : Goroutine} {os : Os} {out : Array (Nat × ByteArray)} {w w9 : World} {kp : Nat → Option Obj} {N : Fresh} {fv thv' fellv' : Value} {lo hi : Nat}

/-- The new thread's first turn. -/
theorem begun_goes (h0 : 0 < A.n0) (hun : A.p.st A.p.nth = .unborn) (hon : A.stops = false) (M9 : GMem (A.begun N fv thv' fellv' lo hi) (some A.p.nth) w9) (hborn : Born Fin C m A.p.nth (kap A.p.nth) ((A.begun N fv thv' fellv' lo hi).lay A.p.nth) N.fc fv g)
    (hI : C.I kap s A.p (A.begun N fv thv' fellv' lo hi).own w9) (hpr : ∀ j a, j < A.p.nth → A.p.st j = .stands a → Promise Fin C m j (kap j) a (A.lay j) (gs j)) (hkp : ∀ b o, kp b = some o → w9.heap[b]? = some o ∧ Plain o ∧ A.own b) :
    CallsX (tokenJ Try.prog Fin) 173 #[.pointer (some ⟨N.tb, 0, none⟩)] ((cfgOf A none gs gm os out).hired ⟨N.wk, unitV, g, [(⟨N.tc, 0, none⟩, .pointer (some ⟨N.tb, 0, none⟩)), (⟨N.tb, 2, none⟩, .chan (some N.wk))]⟩) w9 fun v σ' w' =>
      v = .tuple #[] ∧ BeginR Fin C m A kap gs gm os out kp σ' w' ∧ w'.cell? ⟨N.tc, 0, none⟩ = some (.pointer (some ⟨N.tb, 0, none⟩)) := by
  intro c cs HR _
  have hj : A.p.nth < A.p.nth + 1 := Nat.lt_succ_self _
  have htb : (A.begun N fv thv' fellv' lo hi).tb A.p.nth = N.tb := setAt_same _ _ _
  have hgo := goes_any (Fin := Fin) (A := A.begun N fv thv' fellv' lo hi) (gs := setAt gs A.p.nth g) (j := A.p.nth) (rr := some A.p.nth) (os := os) (out := out) (c := c) (cs := cs) (σ := (cfgOf A none gs gm os out).hired ⟨N.wk, unitV, g, [(⟨N.tc, 0, none⟩, .pointer (some ⟨N.tb, 0, none⟩)), (⟨N.tb, 2, none⟩, .chan (some N.wk))]⟩) M9 hj rfl rfl h0
    (by
      show upd _ (A.n0 + A.p.nth) _ (A.n0 + A.p.nth) = _
      rw [upd_same]
      simp [seatT, GA.begun])
    (fun i s' hs => by
      have hs' : upd (cfgOf A none gs gm os out).seat (A.n0 + A.p.nth) (some ⟨N.wk, unitV, g, [(⟨N.tc, 0, none⟩, .pointer (some ⟨N.tb, 0, none⟩)), (⟨N.tb, 2, none⟩, .chan (some N.wk))]⟩) i = some s' := hs
      by_cases e : i = A.n0 + A.p.nth
      · subst e
        rw [upd_same] at hs'
        obtain rfl := Option.some.inj hs'
        have := M9.chans.2 A.p.nth A.p.nth hj hj
        simp only [GA.begun, setAt_same] at this ⊢
        exact fun h => this h.symm
      · rw [upd_ne _ _ e] at hs'
        rcases seat_cases hs' with ⟨_, i', h, _⟩ | ⟨i', rfl, hi', _, _, rfl⟩
        · cases h
        · have := M9.chans.2 A.p.nth i' hj (show i' < A.p.nth + 1 by omega)
          have hne : i' ≠ A.p.nth := by omega
          simp only [GA.begun, setAt_same, setAt_ne _ _ hne] at this ⊢
          exact fun h => this h.symm)
    (fun gm' => hired_gave h0 hun)
  rw [htb] at hgo
  refine hgo fun gm' k w1 S M1 hback => ?_
  have hwk : (A.begun N fv thv' fellv' lo hi).wk A.p.nth = N.wk := setAt_same _ _ _
  have owns := M9.owns
  have own : (A.begun N fv thv' fellv' lo hi).own ((A.begun N fv thv' fellv' lo hi).wk A.p.nth) := by obtain ⟨_, _, _, _, _, _, _, _, oj⟩ := M9.owns; exact (oj A.p.nth hj).2.1
  rw [setAt_same]
  refine hborn (A.begun N fv thv' fellv' lo hi) kap s (setAt gs A.p.nth g) gm' os out w1 rfl (setAt_same _ _ _) (setAt_same _ _ _) h0 M1 hj hun hon rfl (C.stable hI (Nat.le_of_eq S.size.symm) fun b hb hno => ⟨S.other b fun e => hno (e ▸ own), hno⟩) ?_
  intro A' κ' s' gj' w' M' H' I' P' F'
  refine hback _ _ ?_
  rw [setAt_twice, cfg_gm gm]
  obtain ⟨x, hx, hpx⟩ := H'.p
  have hnth : A'.p.nth = A.p.nth + 1 := by rw [hpx]; rfl
  have hkeep : Held kp A' w' := fun b o hb => by
    obtain ⟨h1, P, h3⟩ := hkp b o hb
    obtain ⟨kw, hkw⟩ := M9.wkc A.p.nth hj
    have hne : b ≠ (A.begun N fv thv' fellv' lo hi).wk A.p.nth := fun e => by rw [e, hkw] at h1; exact P.chan _ _ _ _ _ _ (Option.some.inj h1).symm
    have h4 : w1.heap[b]? = some o := (S.other b hne).trans h1
    have cl : ∀ {x : Array Value} {e : TypeId} {f : Nat × Nat}, w1.heap[b]? = some (.cells x e f) → e ≠ 200 ∧ e ≠ 205 ∧ e ≠ 194 ∧ e ≠ 81 ∧ e ≠ 33 ∧ e ≠ 4 ∧ e ≠ 3 := fun {x e f} h => P.cells x e f (Option.some.inj (h4.symm.trans h))
    have ngw : ¬ GW (A.begun N fv thv' fellv' lo hi) A.p.nth b := by
      rintro (h | h | h | h | h | h | h | h)
      · have h2 := M1.runs; rw [← h] at h2; exact (cl h2).1 rfl
      · have h2 := M1.mapo; rw [← h] at h2; exact P.map _ _ (Option.some.inj (h4.symm.trans h2))
      · have h2 := M1.thr A.p.nth hj; rw [← h] at h2; exact (cl h2).2.1 rfl
      · obtain ⟨k, h2⟩ := M1.wkc A.p.nth hj; rw [← h] at h2; exact P.chan _ _ _ _ _ _ (Option.some.inj (h4.symm.trans h2))
      · obtain ⟨k, h2⟩ := M1.sdc A.p.nth hj; rw [← h] at h2; exact P.chan _ _ _ _ _ _ (Option.some.inj (h4.symm.trans h2))
      · exact (cl (M1.cell b h).obj).2.2.2.1 rfl
      · obtain ⟨_, _, cur, h2⟩ := row_ty M1.logs h; exact (cl h2).2.2.1 rfl
      · have h2 := M1.thr A.p.nth hj
        have e : (A.begun N fv thv' fellv' lo hi).ab A.p.nth = (A.begun N fv thv' fellv' lo hi).tb A.p.nth := (setAt_same _ _ _).trans (setAt_same _ _ _).symm
        rw [← e, ← h] at h2; exact (cl h2).2.1 rfl
    exact ⟨(F'.old b (lt_of_get h4) (.inl h3) ngw).trans h4, P, H'.own b (.inl h3)⟩
  have htc : w'.cell? ⟨N.tc, 0, none⟩ = some (.pointer (some ⟨N.tb, 0, none⟩)) := by
    have h := M'.tcc A.p.nth (by omega)
    rw [H'.tc, H'.tb] at h
    have e1 : (A.begun N fv thv' fellv' lo hi).tc A.p.nth = N.tc := setAt_same _ _ _
    rw [e1, htb] at h
    unfold World.cell?; rw [h]; rfl
  refine HR (.tuple #[]) _ w' ⟨rfl, ⟨A', κ', s', gj', x, rfl, ⟨M', by rw [H'.n0]; exact h0, H'.stops.trans hon, I', fun i a' hii hsi => ?_⟩, hkeep, hx, hpx, H'.n0, H'.R, H'.cells⟩, htc⟩
  by_cases e : i = A.p.nth
  · subst e
    rw [setAt_same, setAt_same]
    exact P' a' hsi
  · have h1 : A.p.st i = .stands a' := by
      rw [hpx] at hsi
      have h2 : setAt A.p.st A.p.nth x i = .stands a' := hsi
      rw [setAt_ne _ _ e] at h2
      exact h2
    have h3 : (A.begun N fv thv' fellv' lo hi).lay i = A.lay i := by simp only [GA.lay, GA.begun, setAt_ne _ _ e]
    rw [setAt_ne _ _ e, setAt_ne _ _ e, H'.lay e, h3]
    exact hpr i a' (by omega) h1
end
end Go.Proofs.Ytcibnfjpagmdaaa
