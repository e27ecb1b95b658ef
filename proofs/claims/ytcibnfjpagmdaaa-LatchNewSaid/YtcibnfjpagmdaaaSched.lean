/- The schedule of a run: whom it lets go; which states a run comes to; how it ends. Without a program. -/
import Derived.Test.YtcibnfjpagmdaaaPub
namespace Go.TX

def lastOf (went : List Nat) : Int := match went.getLast? with
  | none => -1
  | some x => x
def behindmost (L : List Nat) (last : Int) : Nat := match L.find? (fun j : Nat => decide (last < (j : Int))) with
  | some j => j
  | none => L.headD 0
/-- Whom a schedule by picks lets go. -/
def whoGoes (picks : List Int) (went : List Nat) (L : List Nat) : Nat := match picks[went.length]? with
  | some x => L.getD (x % (L.length : Int)).toNat 0
  | none => behindmost L (lastOf went)

theorem behindmost_mem {L : List Nat} {x : Int} (h : L ≠ []) : behindmost L x ∈ L := by
  unfold behindmost
  split
  · rename_i j e; exact List.mem_of_find?_eq_some e
  · cases L with
    | nil => exact absurd rfl h
    | cons a l => simp
theorem whoGoes_mem {picks : List Int} {went L : List Nat} (h : L ≠ []) : whoGoes picks went L ∈ L := by
  unfold whoGoes
  split
  · rename_i x _
    have hpos : 0 < L.length := List.length_pos_iff.2 h
    have h1 := Int.emod_nonneg x (show (L.length : Int) ≠ 0 by omega)
    have h2 := Int.emod_lt_of_pos x (show (0 : Int) < L.length by omega)
    have : (x % (L.length : Int)).toNat < L.length := by omega
    rw [List.getD_eq_getElem?_getD, List.getElem?_eq_getElem this]; exact List.getElem_mem _
  · exact behindmost_mem h

/-- The states to which a run by these picks comes. -/
inductive Reach (picks : List Int) (st0 : Pub → Prop) : Pub → Prop
  | start {p : Pub} : st0 p → Reach picks st0 p
  | turn {p : Pub} {j : Nat} {a : Acc} {s : Phase} : Reach picks st0 p → p.able ≠ [] → j = whoGoes picks p.went p.able → p.st j = .stands a → s ≠ .unborn → Reach picks st0 (((p.turn j p.able.length).access j a).put j s)

/-- At the beginning: all have come to their first access, or have ended. -/
structure Begun (n : Nat) (cv : Nat → Int) (p : Pub) : Prop where
  nth : p.nth = n
  log : p.log = []
  went : p.went = []
  ready : p.ready = []
  cn : p.cn = []
  cv : p.cv = cv
  born : ∀ j, j < n ↔ p.st j ≠ .unborn

/-- 1: all have ended; 2: it had its turns; 3: nobody is ready. -/
def Pub.ends (p : Pub) : Nat := if p.over then 1 else if p.able = [] then 3 else 2
/-- It ends here. -/
def Pub.stopsAt (p : Pub) (most : Nat) : Prop := p.ends = 2 → p.went.length = most

theorem Pub.over_able {p : Pub} (h : p.over = true) : p.able = [] := by
  simp only [Pub.able, List.filter_eq_nil_iff, List.mem_range]
  intro j hj hc
  obtain ⟨a, ha, _⟩ := Pub.can_stands hc
  have := (List.all_eq_true.1 h) j (List.mem_range.2 hj)
  rw [ha] at this
  cases this

theorem Reach.nth {picks : List Int} {n : Nat} {cv : Nat → Int} {p : Pub} (h : Reach picks (Begun n cv) p) : p.nth = n := by
  induction h with
  | start h => exact h.nth
  | turn _ _ _ _ _ ih => exact ih
theorem Reach.lens {picks : List Int} {n : Nat} {cv : Nat → Int} {p : Pub} (h : Reach picks (Begun n cv) p) : p.log.length = p.went.length ∧ p.ready.length = p.went.length := by
  induction h with
  | start h => rw [h.log, h.went, h.ready]; exact ⟨rfl, rfl⟩
  | turn _ _ _ _ _ ih =>
    obtain ⟨h1, h2⟩ := ih
    simp only [Pub.put, Pub.access, Pub.turn, List.length_append, List.length_cons, List.length_nil]
    exact ⟨by omega, by omega⟩
theorem Reach.born {picks : List Int} {n : Nat} {cv : Nat → Int} {p : Pub} (h : Reach picks (Begun n cv) p) : ∀ j, j < n ↔ p.st j ≠ .unborn := by
  induction h with
  | start h => exact h.born
  | @turn p j a s _ _ _ hst hs ih =>
    intro i
    show i < n ↔ setAt p.st j s i ≠ .unborn
    by_cases e : i = j
    · subst e; rw [setAt_same, ih i, hst]; simp [hs]
    · rw [setAt_ne _ _ e]; exact ih i
end Go.TX
