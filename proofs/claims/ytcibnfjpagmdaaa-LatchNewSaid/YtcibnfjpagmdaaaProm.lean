/- What is promised of a thread that stands; the hand of a thread that is under way. -/
import Derived.Test.YtcibnfjpagmdaaaGate
set_option linter.unusedSimpArgs false
set_option linter.unusedVariables false
set_option maxRecDepth 100000
namespace Go.Proofs.Ytcibnfjpagmdaaa
open Go.TX Go.Conc Go.RowKit Go.MapKept

/-- Who uses the run: what it holds of its threads' states (kap), of what they share (s), of how they stand, of the record, of the cells, of memory that is not the run's own, whenever nobody is under way. -/
structure Client where
  K : Type
  S : Type
  Inv : (Nat → K) → S → (Nat → Phase) → List Entry → (Nat → Int) → (Nat → Prop) → World → Prop
  stable : ∀ {kap s st log cv own own'} {w w' : World}, Inv kap s st log cv own w → w.heap.size ≤ w'.heap.size → (∀ b, b < w.heap.size → ¬ own b → w'.heap[b]? = w.heap[b]? ∧ ¬ own' b) → Inv kap s st log cv own' w'
def Client.I (C : Client) (kap : Nat → C.K) (s : C.S) (p : Pub) (own : Nat → Prop) (w : World) : Prop := C.Inv kap s p.st p.log p.cv own w

/-- What a thread under way may turn of the run's own blocks. -/
def GW (A : GA) (j b : Nat) : Prop := b = A.R ∨ b = A.mb ∨ b = A.tb j ∨ b = A.wk j ∨ b = A.sd j ∨ A.cells b ∨ A.logv.ownBlock = some b ∨ b = A.ab j
structure Fr (A : GA) (j : Nat) (w w' : World) : Prop where
  size : w.heap.size ≤ w'.heap.size
  old : ∀ b, b < w.heap.size → A.own b → ¬ GW A j b → w'.heap[b]? = w.heap[b]?
/-- .. one that is stopped. -/
structure FrS (A : GA) (j : Nat) (w w' : World) : Prop where
  size : w'.heap.size = w.heap.size
  old : ∀ b, b ≠ A.tb j → b ≠ A.wk j → b ≠ A.sd j → w'.heap[b]? = w.heap[b]?

/-- Thread j has given the token back. -/
structure Handed (A A' : GA) (j : Nat) : Prop where
  p : ∃ s, s ≠ .unborn ∧ A'.p = A.p.put j s
  n0 : A'.n0 = A.n0
  R : A'.R = A.R
  mb : A'.mb = A.mb
  tb : A'.tb = A.tb
  wk : A'.wk = A.wk
  sd : A'.sd = A.sd
  tc : A'.tc = A.tc
  rc : A'.rc = A.rc
  fc : A'.fc = A.fc
  fv : A'.fv = A.fv
  ab : ∀ i, i ≠ j → A'.ab i = A.ab i
  thv : A'.thv = A.thv
  wentv : A'.wentv = A.wentv
  readyv : A'.readyv = A.readyv
  fellv : A'.fellv = A.fellv
  stops : A'.stops = A.stops
  cells : A'.cells = A.cells
  own : ∀ b, A.own b → A'.own b

/-- Where thread j's things lie. -/
structure LayJ where
  n0 : Nat
  R : Nat
  mb : Nat
  tb : Nat
  wk : Nat
  sd : Nat
  tc : Nat
  rc : Nat
  ab : Nat
  cells : Nat → Prop
def GA.lay (A : GA) (j : Nat) : LayJ := ⟨A.n0, A.R, A.mb, A.tb j, A.wk j, A.sd j, A.tc j, A.rc j, A.ab j, A.cells⟩
/-- Where thread j's own things lie that no access moves. -/
structure Home where
  tb : Nat
  tc : Nat
  rc : Nat
  cells : Nat → Prop
def GA.home (A : GA) (j : Nat) : Home := ⟨A.tb j, A.tc j, A.rc j, A.cells⟩
theorem Handed.lay {A A' : GA} {i j : Nat} (h : Handed A A' j) (hi : i ≠ j) : A'.lay i = A.lay i := by
  unfold GA.lay
  rw [h.n0, h.R, h.mb, h.tb, h.wk, h.sd, h.tc, h.rc, h.ab i hi, h.cells]

def GA.fin (A : GA) (j : Nat) : GA := { A with p := A.p.put j .ended }
def GA.acc (A : GA) (j : Nat) (a : Acc) : GA := { A with p := A.p.access j a }

section
variable (Fin : Machine → Trace → Prop) (C : Client)

/-- What comes of it when a stopped thread ends. -/
def BackS (A : GA) (j : Nat) (gs : Nat → Goroutine) (gm : Goroutine) (os : Os) (out : Array (Nat × ByteArray)) (w : World) : Prop :=
  ∀ w', GMem (A.fin j) none w' → FrS A j w w' → X Try.prog Fin (cfgOf (A.fin j) none gs gm os out) (Go.Conc.served gm unitV) w'
def StopC (j : Nat) (L : LayJ) (g : Goroutine) : Prop :=
  ∀ A gs gm os out w, A.lay j = L → 0 < A.n0 → GMem A none w → j < A.p.nth → (A.p.st j).lives = true → A.stops = true → BackS Fin A j gs gm os out w → X Try.prog Fin (cfgOf A (some j) gs gm os out) (Go.Conc.served g unitV) w

/-- What comes of it when thread j gives the token back; Pr: what is then owed of it. -/
def BackFor (Pr : C.K → Acc → LayJ → Goroutine → Prop) (A : GA) (j : Nat) (kap : Nat → C.K) (gs : Nat → Goroutine) (gm : Goroutine) (os : Os) (out : Array (Nat × ByteArray)) (w : World) : Prop :=
  ∀ A' κ' s' gj' w', GMem A' none w' → Handed A A' j → C.I (setAt kap j κ') s' A'.p A'.own w' → (∀ a', A'.p.st j = .stands a' → Pr κ' a' (A'.lay j) gj') → Fr A j w w' →
    X Try.prog Fin (cfgOf A' none (setAt gs j gj') gm os out) (Go.Conc.served gm unitV) w'

/-- THE PROMISE of thread j that stands at a: for so many turns, and for the end. -/
def Promise : Nat → Nat → C.K → Acc → LayJ → Goroutine → Prop
  | 0, j, _, _, L, g => StopC Fin j L g
  | m + 1, j, κ, a, L, g => Promise m j κ a L g ∧ ∀ A kap s gs gm os out w, A.lay j = L → 0 < A.n0 → GMem A none w → j < A.p.nth → A.p.st j = .stands a → A.stops = false → (a.op = 6 → A.p.cv a.cell ≠ a.arg) → A.p.log.length < 65536 → kap j = κ → C.I kap s A.p A.own w →
      BackFor Fin C (Promise m j) (A.acc j a) j kap gs gm os out w → X Try.prog Fin (cfgOf A (some j) gs gm os out) (Go.Conc.served g unitV) w

theorem Promise.le {m n j : Nat} {κ : C.K} {a : Acc} {L : LayJ} {g : Goroutine} (h : Promise Fin C n j κ a L g) (hm : m ≤ n) : Promise Fin C m j κ a L g := by
  induction n with
  | zero => obtain rfl : m = 0 := by omega
            exact h
  | succ n ih =>
    by_cases e : m = n + 1
    · subst e; exact h
    · exact ih h.1 (by omega)

/-- Thread j is under way. -/
def Mine (m j : Nat) (A : GA) (kap : Nat → C.K) (σ : Cfg) (w : World) : Prop :=
  ∃ gs gm os out, σ = cfgOf A (some j) gs gm os out ∧ 0 < A.n0 ∧ GMem A (some j) w ∧ j < A.p.nth ∧ A.stops = false ∧ A.p.st j ≠ .ended ∧ BackFor Fin C (Promise Fin C m j) A j kap gs gm os out w
/-- It is being stopped. -/
def Stopping (j : Nat) (L : Home) (σ : Cfg) (w : World) : Prop :=
  ∃ A gs gm os out, A.home j = L ∧ σ = cfgOf A (some j) gs gm os out ∧ 0 < A.n0 ∧ GMem A none w ∧ j < A.p.nth ∧ (A.p.st j).lives = true ∧ A.stops = true ∧ BackS Fin A j gs gm os out w
def stopV : Value := .iface 286 (.agg #[])
def StopN (j : Nat) (L : Home) (ch : List PanicEntry) (σ : Cfg) (w : World) : Prop := ch = [{ v := stopV, recovered := false }] ∧ Stopping Fin j L σ w
end

section
variable {Fin : Machine → Trace → Prop} {C : Client} {A : GA} {j : Nat} {kap : Nat → C.K} {gs : Nat → Goroutine} {gm : Goroutine} {os : Os} {out : Array (Nat × ByteArray)} {w : World} {σ : Cfg}

theorem GMem.under (M : GMem A none w) (hj : j < A.p.nth) : GMem A (some j) w := by
  obtain ⟨oR, omb, oc, o1, o2, o3, o4, o5, oj⟩ := M.owns
  refine { runs := M.runs, mapo := M.mapo, thr := M.thr, wkc := M.wkc, sdc := M.sdc, tcc := M.tcc, rcc := M.rcc, fcc := M.fcc, ths := M.ths, logs := M.logs, went := M.went, ready := M.ready, fell := M.fell, cell := M.cell, cnc := M.cnc, cnd := M.cnd, stand := fun i a hi _ hs => M.stand i a hi (by simp) hs, born := fun i => ?_, small := M.small, apart := ⟨M.apart.1, M.apart.2.1, fun i a hi _ => M.apart.2.2 i a hi (by simp)⟩, chans := M.chans, owns := ?_ }
  · have := M.born i
    constructor
    · intro hi; rcases this.1 hi with h | h
      · exact .inl h
      · cases h
    · rintro (h | h)
      · exact this.2 (.inl h)
      · cases h; exact hj
  · exact ⟨oR, omb, oc, o1, o2, o3, o4, o5, fun i hi => ⟨(oj i hi).1, (oj i hi).2.1, (oj i hi).2.2.1, (oj i hi).2.2.2.1, (oj i hi).2.2.2.2.1, (oj i hi).2.2.2.2.2.1, fun a _ hs => (oj i hi).2.2.2.2.2.2 a (by simp) hs⟩⟩

theorem Handed.trans' {A1 A2 A' : GA} (h : Handed A2 A' j) (p : A2.p = A1.p) (n0 : A2.n0 = A1.n0) (R : A2.R = A1.R) (mb : A2.mb = A1.mb) (tb : A2.tb = A1.tb) (wk : A2.wk = A1.wk) (sd : A2.sd = A1.sd) (tc : A2.tc = A1.tc) (rc : A2.rc = A1.rc) (fc : A2.fc = A1.fc) (fv : A2.fv = A1.fv)
    (ab : ∀ i, i ≠ j → A2.ab i = A1.ab i) (thv : A2.thv = A1.thv) (wentv : A2.wentv = A1.wentv) (readyv : A2.readyv = A1.readyv) (fellv : A2.fellv = A1.fellv) (stops : A2.stops = A1.stops) (cells : A2.cells = A1.cells) (own : ∀ b, A1.own b → A2.own b) : Handed A1 A' j :=
  ⟨p ▸ h.p, h.n0.trans n0, h.R.trans R, h.mb.trans mb, h.tb.trans tb, h.wk.trans wk, h.sd.trans sd, h.tc.trans tc, h.rc.trans rc, h.fc.trans fc, h.fv.trans fv, fun i hi => (h.ab i hi).trans (ab i hi), h.thv.trans thv, h.wentv.trans wentv, h.readyv.trans readyv, h.fellv.trans fellv, h.stops.trans stops, h.cells.trans cells, fun b hb => h.own b (own b hb)⟩

/-- The world has turned beside the run's own blocks. -/
theorem BackFor.keep {Pr : C.K → Acc → LayJ → Goroutine → Prop} {w' : World} (B : BackFor Fin C Pr A j kap gs gm os out w) (hs : w.heap.size ≤ w'.heap.size) (h : ∀ b, b < w.heap.size → A.own b → w'.heap[b]? = w.heap[b]?) : BackFor Fin C Pr A j kap gs gm os out w' :=
  fun A' κ' s' gj' w2 M H I P F => B A' κ' s' gj' w2 M H I P ⟨Nat.le_trans hs F.size, fun b hb ho hg => (F.old b (by omega) ho hg).trans (h b hb ho)⟩
theorem Mine.keep {m : Nat} {w' : World} (M : Mine Fin C m j A kap σ w) (hs : w.heap.size ≤ w'.heap.size) (h : ∀ b, b < w.heap.size → A.own b → w'.heap[b]? = w.heap[b]?) : Mine Fin C m j A kap σ w' := by
  obtain ⟨gs, gm, os, out, h1, h2, h3, h4, h5, h6, h7⟩ := M
  exact ⟨gs, gm, os, out, h1, h2, h3.keep h, h4, h5, h6, h7.keep hs h⟩
theorem Mine.mem {m : Nat} (M : Mine Fin C m j A kap σ w) : GMem A (some j) w := M.choose_spec.choose_spec.choose_spec.choose_spec.2.2.1
/-- What is none of the run's own may be written. -/
theorem Mine.free {m : Nat} (M : Mine Fin C m j A kap σ w) {b : Nat} (hb : ¬ A.own b) : σ.Free (· = b) := by
  obtain ⟨gs, gm, os, out, rfl, h2, h3, h4, h5, h6⟩ := M
  obtain ⟨_, _, _, _, _, _, _, _, oj⟩ := h3.owns
  refine free_of h3 (fun i hi => by cases hi; exact h4) fun i hi => ?_
  obtain ⟨o1, o2, o3, o4, _⟩ := oj i hi
  exact ⟨fun e => hb (e ▸ o2), fun e => hb (e ▸ o3), fun e => hb (e ▸ o4), fun e => hb (e ▸ o1)⟩
end
end Go.Proofs.Ytcibnfjpagmdaaa
