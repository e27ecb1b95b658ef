/- What a run of threads is, apart from memory: accesses, entries of the record, how threads stand. -/
import Derived.Test.YtcibnfjpagmdaaaGw2
namespace Go.TX

/-- An access of a cell. Op: 1 load, 2 store, 3 cas, 4 add, 5 swap, 6 park. -/
structure Acc where
  op : Nat
  cell : Nat
  arg : Int
  new : Int
deriving DecidableEq

def Acc.now (a : Acc) (was : Int) : Int :=
  if a.op = 2 ∨ a.op = 5 then a.arg else if a.op = 4 then IntKind.i64.wrap (was + a.arg) else if a.op = 3 then (if was = a.arg then a.new else was) else was
def Acc.ok (a : Acc) (was : Int) : Bool := decide (a.op = 3) && decide (was = a.arg)
/-- As Step brings it into form. -/
structure Acc.Fit (a : Acc) : Prop where
  lo : 1 ≤ a.op
  hi : a.op ≤ 6
  load : a.op = 1 → a.arg = 0
  cas : a.op ≠ 3 → a.new = 0

/-- An entry of the record. -/
structure Entry where
  thread : Nat
  op : Nat
  cell : Int
  arg : Int
  new : Int
  was : Int
  now : Int
  ok : Bool
deriving DecidableEq
def Entry.cells (e : Entry) : List Value := [.int .i64 e.thread, .int .i8 e.op, .int .i64 e.cell, .int .i64 e.arg, .int .i64 e.new, .int .i64 e.was, .int .i64 e.now, .bool e.ok]
def Entry.zero : Entry := ⟨0, 0, 0, 0, 0, 0, 0, false⟩
/-- The access at which a thread stands. -/
def Acc.stand (a : Acc) (j : Nat) : Entry := ⟨j, a.op, -1, a.arg, a.new, 0, 0, false⟩
/-- The access, done. -/
def Acc.done (a : Acc) (j : Nat) (n : Nat) (was : Int) : Entry := ⟨j, a.op, n, a.arg, a.new, was, a.now was, a.ok was⟩

inductive Phase where
  | unborn
  | stands (a : Acc)
  | ended
deriving DecidableEq
def Phase.lives : Phase → Bool
  | .stands _ => true
  | _ => false

structure Pub where
  nth : Nat
  st : Nat → Phase
  log : List Entry
  went : List Nat
  ready : List Nat
  cn : List Nat
  cv : Nat → Int

def setAt {α : Type} (f : Nat → α) (i : Nat) (v : α) : Nat → α := fun x => if x = i then v else f x
@[simp] theorem setAt_same {α : Type} (f : Nat → α) (i : Nat) (v : α) : setAt f i v i = v := by simp [setAt]
theorem setAt_ne {α : Type} (f : Nat → α) {i x : Nat} (v : α) (h : x ≠ i) : setAt f i v x = f x := by simp [setAt, h]

/-- The cells' numbers behind an access of that cell. -/
def addCell (cn : List Nat) (c : Nat) : List Nat := if c ∈ cn then cn else cn ++ [c]
/-- A thread's access is done. -/
def Pub.access (p : Pub) (j : Nat) (a : Acc) : Pub :=
  { p with cn := addCell p.cn a.cell, log := p.log ++ [a.done j ((addCell p.cn a.cell).idxOf a.cell) (p.cv a.cell)], cv := setAt p.cv a.cell (a.now (p.cv a.cell)) }
/-- A thread stands, or has ended. -/
def Pub.put (p : Pub) (j : Nat) (s : Phase) : Pub := { p with st := setAt p.st j s }
/-- Somebody's turn begins. -/
def Pub.turn (p : Pub) (j n : Nat) : Pub := { p with went := p.went ++ [j], ready := p.ready ++ [n] }

/-- May it go? -/
def Pub.can (p : Pub) (j : Nat) : Bool :=
  match p.st j with
  | .stands a => !(decide (a.op = 6) && decide (p.cv a.cell = a.arg))
  | _ => false
def Pub.able (p : Pub) : List Nat := (List.range p.nth).filter p.can
def Pub.over (p : Pub) : Bool := (List.range p.nth).all fun j => !(p.st j).lives

theorem Pub.can_lt {p : Pub} {j : Nat} (h : j ∈ p.able) : j < p.nth ∧ p.can j = true := by simpa [Pub.able] using h
theorem Pub.can_stands {p : Pub} {j : Nat} (h : p.can j = true) : ∃ a, p.st j = .stands a ∧ (a.op = 6 → p.cv a.cell ≠ a.arg) := by
  unfold Pub.can at h
  split at h
  · rename_i a e
    refine ⟨a, e, fun h6 hc => ?_⟩
    simp [h6, hc] at h
  · cases h
end Go.TX
