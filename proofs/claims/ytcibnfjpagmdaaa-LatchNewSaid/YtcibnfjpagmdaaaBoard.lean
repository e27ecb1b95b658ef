/- Main's side of a run: what it holds between the turns; what a turn gives; what the stopping of a thread gives. -/
import Derived.Test.YtcibnfjpagmdaaaLife
import Derived.Test.YtcibnfjpagmdaaaSched
set_option linter.unusedSimpArgs false
set_option linter.unusedVariables false
set_option maxRecDepth 100000
set_option maxHeartbeats 2000000
namespace Go.Proofs.Ytcibnfjpagmdaaa
open Go.TX Go.Conc Go.RowKit Go.MapKept

/-- What holds between two turns. -/
structure Board (Fin : Machine → Trace → Prop) (C : Client) (m : Nat) (A : GA) (kap : Nat → C.K) (s : C.S) (gs : Nat → Goroutine) (w : World) : Prop where
  mem : GMem A none w
  n0 : 0 < A.n0
  on : A.stops = false
  inv : C.I kap s A.p A.own w
  pr : ∀ j a, j < A.p.nth → A.p.st j = .stands a → Promise Fin C m j (kap j) a (A.lay j) (gs j)

/-- What no thread of the run can hold. -/
structure Plain (o : Obj) : Prop where
  chan : ∀ a b c d e f, o ≠ .chan a b c d e f
  map : ∀ a b, o ≠ .map a b
  cells : ∀ c e f, o = .cells c e f → e ≠ 200 ∧ e ≠ 205 ∧ e ≠ 194 ∧ e ≠ 81 ∧ e ≠ 33 ∧ e ≠ 4 ∧ e ≠ 3
theorem plain_cells {c : Array Value} {e : TypeId} {f : Nat × Nat} (h : e ≠ 200 ∧ e ≠ 205 ∧ e ≠ 194 ∧ e ≠ 81 ∧ e ≠ 33 ∧ e ≠ 4 ∧ e ≠ 3) : Plain (.cells c e f) :=
  ⟨by simp, by simp, fun c' e' f' h' => by obtain ⟨_, rfl, _⟩ := Obj.cells.inj h'; exact h⟩
/-- Main's own memory: the run keeps it. -/
def Held (kp : Nat → Option Obj) (A : GA) (w : World) : Prop := ∀ b o, kp b = some o → w.heap[b]? = some o ∧ Plain o ∧ A.own b

section
variable {Fin : Machine → Trace → Prop} {C : Client} {m : Nat} {A A' : GA} {kap : Nat → C.K} {s : C.S} {gs : Nat → Goroutine} {gm gm' : Goroutine} {os : Os} {out : Array (Nat × ByteArray)} {w w' : World} {j : Nat} {a : Acc} {kp : Nat → Option Obj}

theorem cfg_gm (gm' : Goroutine) : cfgOf A none gs gm os out = cfgOf A none gs gm' os out := by
  unfold cfgOf
  congr 1

theorem Held.safe (H : Held kp A w) (M : GMem A none w) (hj : j < A.p.nth) (hst : A.stops = false) (hs : A.p.st j = .stands a) {b : Nat} {o : Obj} (hb : kp b = some o) : ¬ GW (A.acc j a) j b := by
  obtain ⟨h1, P, _⟩ := H b o hb
  have cl : ∀ {x : Array Value} {e : TypeId} {f : Nat × Nat}, w.heap[b]? = some (.cells x e f) → e ≠ 200 ∧ e ≠ 205 ∧ e ≠ 194 ∧ e ≠ 81 ∧ e ≠ 33 ∧ e ≠ 4 ∧ e ≠ 3 := fun {x e f} h => P.cells x e f (Option.some.inj (h1.symm.trans h))
  rintro (h | h | h | h | h | h | h | h)
  · have h2 := M.runs; rw [show A.R = b from h.symm] at h2; exact (cl h2).1 rfl
  · have h2 := M.mapo; rw [show A.mb = b from h.symm] at h2; exact P.map _ _ (Option.some.inj (h1.symm.trans h2))
  · have h2 := M.thr j hj; rw [show A.tb j = b from h.symm] at h2; exact (cl h2).2.1 rfl
  · obtain ⟨k, h2⟩ := M.wkc j hj; rw [show A.wk j = b from h.symm] at h2; exact P.chan _ _ _ _ _ _ (Option.some.inj (h1.symm.trans h2))
  · obtain ⟨k, h2⟩ := M.sdc j hj; rw [show A.sd j = b from h.symm] at h2; exact P.chan _ _ _ _ _ _ (Option.some.inj (h1.symm.trans h2))
  · exact (cl (M.cell b h).obj).2.2.2.1 rfl
  · obtain ⟨_, _, cur, h2⟩ := row_ty M.logs h; exact (cl h2).2.2.1 rfl
  · have h2 := (M.stand j a hj (by simp) hs).2.2.2.2 hst; rw [show A.ab j = b from h.symm] at h2; exact (cl h2).2.2.1 rfl

/-- A TURN: main lets thread j go, up to where it stands again. -/
theorem goes_turn (B : Board Fin C (m + 1) A kap s gs w) (H : Held kp A w) (hj : j < A.p.nth) (hs : A.p.st j = .stands a) (hp : a.op = 6 → A.p.cv a.cell ≠ a.arg) (hl : A.p.log.length < 65536) :
    CallsX (tokenJ Try.prog Fin) 173 #[.pointer (some ⟨A.tb j, 0, none⟩)] (cfgOf A none gs gm os out) w fun v σ' w' =>
      v = .tuple #[] ∧ ∃ A' κ' s' g' x, σ' = cfgOf A' none (setAt gs j g') gm os out ∧ Board Fin C m A' (setAt kap j κ') s' (setAt gs j g') w' ∧ Held kp A' w' ∧ x ≠ .unborn ∧ A'.p = (A.p.access j a).put j x ∧ Handed (A.acc j a) A' j := by
  intro c cs HR _
  have hlive : (A.p.st j).lives = true := by rw [hs]; rfl
  refine goes_core B.n0 B.mem hj hlive fun gm' k w1 S M1 hback => ?_
  obtain ⟨kw, hkw⟩ := B.mem.wkc j hj
  have ow : A.own (A.wk j) := by obtain ⟨_, _, _, _, _, _, _, _, oj⟩ := B.mem.owns; exact (oj j hj).2.1
  refine (B.pr j a hj hs).2 A kap s gs gm' os out w1 rfl B.n0 M1 hj hs B.on hp hl rfl (C.stable B.inv (Nat.le_of_eq S.size.symm) fun b hb hno => ⟨S.other b fun e => hno (e ▸ ow), hno⟩) ?_
  intro A' κ' s' gj' w' M' H' I' P' F'
  refine hback _ _ ?_
  rw [cfg_gm gm]
  obtain ⟨x, hx, hpx⟩ := H'.p
  have hkeep : Held kp A' w' := fun b o hb => by
    obtain ⟨h1, h2, h3⟩ := H b o hb
    have hne : b ≠ A.wk j := fun e => by rw [e, hkw] at h1; exact h2.chan _ _ _ _ _ _ (Option.some.inj h1).symm
    have h4 : w1.heap[b]? = some o := (S.other b hne).trans h1
    exact ⟨(F'.old b (lt_of_get h4) h3 (H.safe B.mem hj B.on hs hb)).trans h4, h2, H'.own b h3⟩
  refine HR (.tuple #[]) _ w' ⟨rfl, A', κ', s', gj', x, rfl, ⟨M', by rw [H'.n0]; exact B.n0, H'.stops.trans B.on, I', fun i a' hi hsi => ?_⟩, hkeep, hx, hpx, H'⟩
  have hnth : A'.p.nth = A.p.nth := by rw [hpx]; rfl
  by_cases e : i = j
  · subst e
    rw [setAt_same, setAt_same]
    exact P' a' hsi
  · rw [setAt_ne _ _ e, setAt_ne _ _ e, H'.lay e]
    have h1 : A.p.st i = .stands a' := by
      rw [hpx] at hsi
      have h2 : setAt (A.acc j a).p.st j x i = .stands a' := hsi
      rw [setAt_ne _ _ e] at h2
      exact h2
    exact (B.pr i a' (by rw [← hnth]; exact hi) h1).1

/-- What holds while main stops its threads. -/
structure Stopped (Fin : Machine → Trace → Prop) (A : GA) (gs : Nat → Goroutine) (w : World) : Prop where
  mem : GMem A none w
  n0 : 0 < A.n0
  off : A.stops = true
  pr : ∀ j, j < A.p.nth → (A.p.st j).lives = true → StopC Fin j (A.lay j) (gs j)

theorem goes_stop (B : Stopped Fin A gs w) (hj : j < A.p.nth) (hl : (A.p.st j).lives = true) :
    CallsX (tokenJ Try.prog Fin) 173 #[.pointer (some ⟨A.tb j, 0, none⟩)] (cfgOf A none gs gm os out) w fun v σ' w' =>
      v = .tuple #[] ∧ σ' = cfgOf (A.fin j) none gs gm os out ∧ Stopped Fin (A.fin j) gs w' ∧ FrS A j w w' := by
  intro c cs HR _
  refine goes_core B.n0 B.mem hj hl fun gm' k w1 S M1 hback => ?_
  refine B.pr j hj hl A gs gm' os out w1 rfl B.n0 M1 hj hl B.off ?_
  intro w' M' F'
  refine hback _ _ ?_
  rw [cfg_gm gm]
  refine HR (.tuple #[]) _ w' ⟨rfl, rfl, ⟨M', B.n0, B.off, fun i hi hsi => ?_⟩, ⟨F'.size.trans S.size, fun b h1 h2 h3 => (F'.old b h1 h2 h3).trans (S.other b h2)⟩⟩
  by_cases e : i = j
  · subst e
    have : (setAt A.p.st i .ended i).lives = true := hsi
    rw [setAt_same] at this
    cases this
  · have h1 : (setAt A.p.st j .ended i).lives = true := hsi
    rw [setAt_ne _ _ e] at h1
    exact B.pr i hi h1
end
end Go.Proofs.Ytcibnfjpagmdaaa
