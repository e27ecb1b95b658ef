/- A run of threads in memory; who sits where; what is promised of a thread that stands. -/
import Derived.Test.YtcibnfjpagmdaaaWay
import Derived.Test.YtcibnfjpagmdaaaRowl
set_option linter.unusedSimpArgs false
set_option linter.unusedVariables false
set_option maxRecDepth 100000
namespace Go.Proofs.Ytcibnfjpagmdaaa
open Go.TX Go.Conc Go.RowKit Go.MapKept

/-- A run, and where it lies. Thread j is goroutine n0 + j. -/
structure GA where
  p : Pub
  n0 : Nat
  R : Nat
  mb : Nat
  tb : Nat → Nat
  wk : Nat → Nat
  sd : Nat → Nat
  tc : Nat → Nat
  rc : Nat → Nat
  fc : Nat → Nat
  fv : Nat → Value
  ab : Nat → Nat
  pv : Nat → Option Nat
  pa : Nat → Entry
  thv : Value
  logv : Value
  wentv : Value
  readyv : Value
  fellv : Value
  stops : Bool
  cells : Nat → Prop
  own : Nat → Prop

def entriesOf (cn : List Nat) : Array MapEntry := (cn.zipIdx.map fun x => { key := .pointer (some ⟨x.1, 0, none⟩), val := .int .i64 x.2, born := x.2 }).toArray
def flatLog (l : List Entry) : List Value := (l.map Entry.cells).flatten
def ints (l : List Nat) : List Value := l.map fun n : Nat => .int .i64 (n : Int)
def runObj (A : GA) : Obj := .cells #[A.thv, .map (some A.mb), A.logv, A.wentv, A.readyv, A.fellv, .bool A.stops] 200
def thrCells (R j wk sd : Nat) (pv : Option Nat) (e : Entry) (ended : Bool) : Array Value :=
  #[.pointer (some ⟨R, 0, none⟩), .int .i64 j, .chan (some wk), .chan (some sd), .pointer (pv.map fun c => ⟨c, 0, none⟩), .int .i64 e.thread, .int .i8 e.op, .int .i64 e.cell, .int .i64 e.arg, .int .i64 e.new, .int .i64 e.was, .int .i64 e.now, .bool e.ok, .bool ended]
def thrObj (A : GA) (j : Nat) : Obj := .cells (thrCells A.R j (A.wk j) (A.sd j) (A.pv j) (A.pa j) (decide (A.p.st j = .ended))) 205

/-- A block of a slice is the run's own. -/
def OwnRow (own : Nat → Prop) (v : Value) : Prop := ∀ b, v.ownBlock = some b → own b

/-- The run in memory; thread 'run' is under way. -/
structure GMem (A : GA) (run : Option Nat) (w : World) : Prop where
  runs : w.heap[A.R]? = some (runObj A)
  mapo : w.heap[A.mb]? = some (.map (entriesOf A.p.cn) A.p.cn.length)
  thr : ∀ j, j < A.p.nth → w.heap[A.tb j]? = some (thrObj A j)
  wkc : ∀ j, j < A.p.nth → ∃ k, w.heap[A.wk j]? = some (.chan 0 #[] false k k false)
  sdc : ∀ j, j < A.p.nth → ∃ k, w.heap[A.sd j]? = some (.chan 0 #[] false k k false)
  tcc : ∀ j, j < A.p.nth → w.heap[A.tc j]? = some (.cells #[.pointer (some ⟨A.tb j, 0, none⟩)] 33)
  rcc : ∀ j, j < A.p.nth → w.heap[A.rc j]? = some (.cells #[.pointer (some ⟨A.R, 0, none⟩)] 196)
  fcc : ∀ j, j < A.p.nth → w.heap[A.fc j]? = some (.cells #[A.fv j] 40)
  ths : w.ownsRow 0 33 1 A.thv A.p.nth ((List.range A.p.nth).map fun j => .pointer (some ⟨A.tb j, 0, none⟩))
  logs : w.ownsRow 0 194 8 A.logv A.p.log.length (flatLog A.p.log)
  went : w.ownsRow 0 3 1 A.wentv A.p.went.length (ints A.p.went)
  ready : w.ownsRow 0 3 1 A.readyv A.p.ready.length (ints A.p.ready)
  fell : w.ownsRow 0 4 1 A.fellv A.p.nth (List.replicate A.p.nth (.bool false))
  cell : ∀ c, A.cells c → CellIs w c (A.p.cv c)
  cnc : ∀ c, c ∈ A.p.cn → A.cells c
  cnd : A.p.cn.Nodup
  stand : ∀ j a, j < A.p.nth → run ≠ some j → A.p.st j = .stands a → A.pv j = some a.cell ∧ A.pa j = a.stand j ∧ A.cells a.cell ∧ a.Fit ∧ (A.stops = false → w.heap[A.ab j]? = some (.cells (a.stand j).cells.toArray 194))
  born : ∀ j, j < A.p.nth ↔ A.p.st j ≠ .unborn ∨ run = some j
  small : A.p.log.length ≤ 65536 ∧ A.p.went.length ≤ 65536 ∧ A.p.ready.length ≤ 65536 ∧ A.p.nth ≤ 64
  apart : (∀ b, A.wentv.ownBlock = some b → A.readyv.ownBlock ≠ some b) ∧ (∀ j, j < A.p.nth → A.thv.ownBlock ≠ some (A.tc j)) ∧ (∀ j a, j < A.p.nth → run ≠ some j → A.p.st j = .stands a → A.stops = false → A.logv.ownBlock ≠ some (A.ab j))
  chans : (∀ i j, i < A.p.nth → j < A.p.nth → A.wk i = A.wk j → i = j) ∧ (∀ i j, i < A.p.nth → j < A.p.nth → A.sd i ≠ A.wk j)
  owns : A.own A.R ∧ A.own A.mb ∧ (∀ c, A.cells c → A.own c) ∧ OwnRow A.own A.thv ∧ OwnRow A.own A.logv ∧ OwnRow A.own A.wentv ∧ OwnRow A.own A.readyv ∧ OwnRow A.own A.fellv ∧
    ∀ j, j < A.p.nth → A.own (A.tb j) ∧ A.own (A.wk j) ∧ A.own (A.sd j) ∧ A.own (A.tc j) ∧ A.own (A.rc j) ∧ A.own (A.fc j) ∧ (∀ a, run ≠ some j → A.p.st j = .stands a → A.own (A.ab j))

variable {A : GA} {run : Option Nat} {w : World}

/-- The run's own blocks stand: so does the run. -/
theorem GMem.keep {w' : World} (M : GMem A run w) (h : ∀ b, b < w.heap.size → A.own b → w'.heap[b]? = w.heap[b]?) : GMem A run w' := by
  obtain ⟨oR, omb, oc, o1, o2, o3, o4, o5, oj⟩ := M.owns
  have row : ∀ {e : TypeId} {s : Nat} {v : Value} {n : Nat} {xs : List Value}, OwnRow A.own v → w.ownsRow 0 e s v n xs → w'.ownsRow 0 e s v n xs := fun ho hr => row_later hr fun k hk => h k (row_ty hr hk).2.1 (ho k hk)
  have at_ : ∀ {b : Nat} {o : Obj}, A.own b → w.heap[b]? = some o → w'.heap[b]? = some o := fun ho hb => (h _ (lt_of_get hb) ho).trans hb
  refine ⟨at_ oR M.runs, at_ omb M.mapo, fun j hj => at_ (oj j hj).1 (M.thr j hj), fun j hj => (M.wkc j hj).imp fun k hk => at_ (oj j hj).2.1 hk, fun j hj => (M.sdc j hj).imp fun k hk => at_ (oj j hj).2.2.1 hk,
    fun j hj => at_ (oj j hj).2.2.2.1 (M.tcc j hj), fun j hj => at_ (oj j hj).2.2.2.2.1 (M.rcc j hj), fun j hj => at_ (oj j hj).2.2.2.2.2.1 (M.fcc j hj), row o1 M.ths, row o2 M.logs, row o3 M.went, row o4 M.ready, row o5 M.fell,
    fun c hc => at_ (oc c hc) (M.cell c hc), M.cnc, M.cnd, fun j a hj hr hs => ?_, M.born, M.small, M.apart, M.chans, M.owns⟩
  obtain ⟨h1, h2, h3, h4, h5⟩ := M.stand j a hj hr hs
  exact ⟨h1, h2, h3, h4, fun hst => at_ ((oj j hj).2.2.2.2.2.2 a hr hs) (h5 hst)⟩
theorem GMem.grown {w' : World} (M : GMem A run w) (h : ∀ b, b < w.heap.size → w'.heap[b]? = w.heap[b]?) : GMem A run w' := M.keep fun b hb _ => h b hb
/-- More blocks become the run's own. -/
theorem GMem.more (M : GMem A run w) {own' : Nat → Prop} (h : ∀ b, A.own b → own' b) : GMem { A with own := own' } run w := by
  obtain ⟨oR, omb, oc, o1, o2, o3, o4, o5, oj⟩ := M.owns
  refine { runs := M.runs, mapo := M.mapo, thr := M.thr, wkc := M.wkc, sdc := M.sdc, tcc := M.tcc, rcc := M.rcc, fcc := M.fcc, ths := M.ths, logs := M.logs, went := M.went, ready := M.ready, fell := M.fell, cell := M.cell, cnc := M.cnc, cnd := M.cnd, stand := M.stand, born := M.born, small := M.small, apart := M.apart, chans := M.chans, owns := ?_ }
  exact ⟨h _ oR, h _ omb, fun c hc => h _ (oc c hc), fun b hb => h _ (o1 b hb), fun b hb => h _ (o2 b hb), fun b hb => h _ (o3 b hb), fun b hb => h _ (o4 b hb), fun b hb => h _ (o5 b hb), fun j hj => ⟨h _ (oj j hj).1, h _ (oj j hj).2.1, h _ (oj j hj).2.2.1, h _ (oj j hj).2.2.2.1, h _ (oj j hj).2.2.2.2.1, h _ (oj j hj).2.2.2.2.2.1, fun a hr hs => h _ ((oj j hj).2.2.2.2.2.2 a hr hs)⟩⟩

theorem GMem.r0 (M : GMem A run w) : w.cell? ⟨A.R, 0, none⟩ = some A.thv := by unfold World.cell?; rw [M.runs]; rfl
theorem GMem.r1 (M : GMem A run w) : w.cell? ⟨A.R, 1, none⟩ = some (.map (some A.mb)) := by unfold World.cell?; rw [M.runs]; rfl
theorem GMem.r2 (M : GMem A run w) : w.cell? ⟨A.R, 2, none⟩ = some A.logv := by unfold World.cell?; rw [M.runs]; rfl
theorem GMem.r3 (M : GMem A run w) : w.cell? ⟨A.R, 3, none⟩ = some A.wentv := by unfold World.cell?; rw [M.runs]; rfl
theorem GMem.r4 (M : GMem A run w) : w.cell? ⟨A.R, 4, none⟩ = some A.readyv := by unfold World.cell?; rw [M.runs]; rfl
theorem GMem.r5 (M : GMem A run w) : w.cell? ⟨A.R, 5, none⟩ = some A.fellv := by unfold World.cell?; rw [M.runs]; rfl
theorem GMem.r6 (M : GMem A run w) : w.cell? ⟨A.R, 6, none⟩ = some (.bool A.stops) := by unfold World.cell?; rw [M.runs]; rfl
theorem GMem.t0 (M : GMem A run w) {j : Nat} (hj : j < A.p.nth) : w.cell? ⟨A.tb j, 0, none⟩ = some (.pointer (some ⟨A.R, 0, none⟩)) := by unfold World.cell?; rw [M.thr j hj]; rfl
theorem GMem.t1 (M : GMem A run w) {j : Nat} (hj : j < A.p.nth) : w.cell? ⟨A.tb j, 1, none⟩ = some (.int .i64 j) := by unfold World.cell?; rw [M.thr j hj]; rfl
theorem GMem.t13 (M : GMem A run w) {j : Nat} (hj : j < A.p.nth) : w.cell? ⟨A.tb j, 13, none⟩ = some (.bool (decide (A.p.st j = .ended))) := by unfold World.cell?; rw [M.thr j hj]; rfl

/-! ### who sits where -/
def unitV : Value := .agg #[]
def seatT (A : GA) (g : Goroutine) (j : Nat) : SeatX := ⟨A.wk j, unitV, g, [(⟨A.tc j, 0, none⟩, .pointer (some ⟨A.tb j, 0, none⟩)), (⟨A.tb j, 2, none⟩, .chan (some (A.wk j)))]⟩
def seatM (A : GA) (gm : Goroutine) (j : Nat) : SeatX := ⟨A.sd j, unitV, gm, [(⟨A.tb j, 3, none⟩, .chan (some (A.sd j)))]⟩
def seatOf (A : GA) (run : Option Nat) (gs : Nat → Goroutine) (gm : Goroutine) (x : Nat) : Option SeatX :=
  if x = 0 then run.map (seatM A gm) else if A.n0 ≤ x ∧ x < A.n0 + A.p.nth ∧ run ≠ some (x - A.n0) ∧ (A.p.st (x - A.n0)).lives = true then some (seatT A (gs (x - A.n0)) (x - A.n0)) else none
def cfgOf (A : GA) (run : Option Nat) (gs : Nat → Goroutine) (gm : Goroutine) (os : Os) (out : Array (Nat × ByteArray)) : Cfg :=
  { n := A.n0 + A.p.nth, h := match run with | none => 0 | some j => A.n0 + j, dl := 0, seat := seatOf A run gs gm, os := os, out := out }

theorem seat_thr {gs : Nat → Goroutine} {gm : Goroutine} {j : Nat} (h0 : 0 < A.n0) (hj : j < A.p.nth) (hr : run ≠ some j) (hl : (A.p.st j).lives = true) : seatOf A run gs gm (A.n0 + j) = some (seatT A (gs j) j) := by
  unfold seatOf
  rw [if_neg (by omega), if_pos ⟨by omega, by omega, by rw [Nat.add_sub_cancel_left]; exact hr, by rw [Nat.add_sub_cancel_left]; exact hl⟩, Nat.add_sub_cancel_left]
theorem seat_cases {gs : Nat → Goroutine} {gm : Goroutine} {x : Nat} {s : SeatX} (h : seatOf A run gs gm x = some s) : (x = 0 ∧ ∃ j, run = some j ∧ s = seatM A gm j) ∨ (∃ j, x = A.n0 + j ∧ j < A.p.nth ∧ run ≠ some j ∧ (A.p.st j).lives = true ∧ s = seatT A (gs j) j) := by
  unfold seatOf at h
  split at h
  · rename_i e
    obtain ⟨j, h1, h2⟩ := Option.map_eq_some_iff.1 h
    exact .inl ⟨e, j, h1, h2.symm⟩
  · split at h
    · rename_i h1 h2
      obtain ⟨a1, a2, a3, a4⟩ := h2
      exact .inr ⟨x - A.n0, by omega, by omega, a3, a4, (Option.some.inj h).symm⟩
    · cases h
/-- A block on which nobody leans. -/
theorem free_of (M : GMem A run w) {gs : Nat → Goroutine} {gm : Goroutine} {os : Os} {out : Array (Nat × ByteArray)} (hrun : ∀ j, run = some j → j < A.p.nth) {b : Nat} (h : ∀ j, j < A.p.nth → b ≠ A.wk j ∧ b ≠ A.sd j ∧ b ≠ A.tc j ∧ b ≠ A.tb j) : (cfgOf A run gs gm os out).Free (· = b) := by
  intro x s hs
  rcases seat_cases hs with ⟨_, j, hj, rfl⟩ | ⟨j, _, hj, _, _, rfl⟩
  · obtain ⟨h1, h2, h3, h4⟩ := h j (hrun j hj)
    exact ⟨h2.symm, fun p hp => by simp [seatM] at hp; subst hp; exact h4.symm⟩
  · obtain ⟨h1, h2, h3, h4⟩ := h j hj
    exact ⟨h1.symm, fun p hp => by simp [seatT] at hp; rcases hp with rfl | rfl; exact h3.symm; exact h4.symm⟩
/-- The cells of a thread's own struct, but those that lead to its channels. -/
theorem freeC_tb (M : GMem A run w) {gs : Nat → Goroutine} {gm : Goroutine} {os : Os} {out : Array (Nat × ByteArray)} {j lo hi : Nat} (hrun : run = some j) (hj : j < A.p.nth) (h4 : 4 ≤ lo) : (cfgOf A run gs gm os out).FreeC (A.tb j) lo hi := by
  have inj : ∀ i, i < A.p.nth → A.tb i = A.tb j → i = j := fun i hi e => by
    have h1 := M.thr i hi
    have h2 := M.thr j hj
    rw [e] at h1
    have := h1.symm.trans h2
    simp [thrObj, thrCells] at this
    omega
  have nch : ∀ i, i < A.p.nth → A.wk i ≠ A.tb j ∧ A.sd i ≠ A.tb j ∧ A.tc i ≠ A.tb j := fun i hi => by
    obtain ⟨k1, h1⟩ := M.wkc i hi
    obtain ⟨k2, h2⟩ := M.sdc i hi
    have h3 := M.tcc i hi
    have h4 := M.thr j hj
    refine ⟨fun e => ?_, fun e => ?_, fun e => ?_⟩
    · rw [e] at h1; have := h1.symm.trans h4; simp [thrObj] at this
    · rw [e] at h2; have := h2.symm.trans h4; simp [thrObj] at this
    · rw [e] at h3; have := h3.symm.trans h4; simp [thrObj] at this
  intro x s hs
  rcases seat_cases hs with ⟨_, i, hi, rfl⟩ | ⟨i, _, hi, hr, _, rfl⟩
  · obtain rfl : i = j := by rw [hrun] at hi; exact (Option.some.inj hi).symm
    exact ⟨(nch i hj).2.1, fun p hp => by simp [seatM] at hp; subst hp; rintro ⟨_, h1, _⟩; simp at h1; omega⟩
  · have hne : A.tb i ≠ A.tb j := fun e => hr (by rw [hrun, inj i hi e])
    exact ⟨(nch i hi).1, fun p hp => by
      simp [seatT] at hp
      rcases hp with rfl | rfl
      · exact fun h => (nch i hi).2.2 h.1
      · exact fun h => hne h.1⟩
end Go.Proofs.Ytcibnfjpagmdaaa
