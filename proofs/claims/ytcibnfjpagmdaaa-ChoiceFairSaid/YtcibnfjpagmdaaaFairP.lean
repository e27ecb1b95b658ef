/- What ChoiceFair's walk leans on: rows of pipes, what is in them. -/
import Derived.Test.YtcibnfjpagmdaaaNone21
import Derived.Test.YtcibnfjpagmdaaaMk
set_option linter.unusedSimpArgs false
set_option linter.unusedVariables false
set_option maxRecDepth 100000
namespace Go.Proofs.Ytcibnfjpagmdaaa
open Go.TX Go.Conc Go.RowKit Go.MapKept
variable {J : Judge Try.prog} {σ : Cfg} {w : World}

theorem pow2_64 : Pow2 64 := ⟨6, by decide, by decide, rfl⟩
/-- A block of a pipe's. -/
def InS (S : Shape) (b : Nat) : Prop := b = S.p ∨ b = S.pl ∨ S.cell b
section
variable {bell n : Nat} {d : Int} {S : Nat → Shape} {o : Nat → Nat} {q : Nat → List Int}
theorem Fam.keep {w' : World} (F : Fam w bell d n S o q) (hb : w'.heap[bell]? = w.heap[bell]?) (h : ∀ x, x < n → ∀ b, InS (S x) b → w'.heap[b]? = w.heap[b]?) : Fam w' bell d n S o q :=
  ⟨F.isBell.later hb, fun x hx => ⟨(F.pq x hx).1.later (h x hx _ (.inl rfl)) (h x hx _ (.inr (.inl rfl))) fun b hc => h x hx b (.inr (.inr hc)), (F.pq x hx).2⟩, F.apart⟩
theorem Fam.lt (F : Fam w bell d n S o q) {x b : Nat} (hx : x < n) (h : InS (S x) b) : b < w.heap.size := by
  obtain ⟨hP, _⟩ := F.pq x hx
  have := hP.pow.le
  rcases h with rfl | rfl | h
  · exact lt_of_cell hP.laid.p0
  · exact lt_of_cell (hP.laid.lt 0 (by omega))
  · obtain ⟨v, hv⟩ := hP.cellIs h; exact hv.lt
/-- One pipe more. -/
theorem Fam.more (F : Fam w bell d n S o q) {s : Shape} {l : List Int} {k : Nat} (hP : PQ w s k l false) (hb : s.bell = bell) (hd : ∀ x, x < n → ∀ b, (S x).cell b → ¬ s.cell b) : Fam w bell d (n + 1) (setAt S n s) (setAt o n k) (setAt q n l) := by
  refine ⟨F.isBell, fun x hx => ?_, fun x y hx hy hne b hc hc' => ?_⟩
  · by_cases e : x = n
    · subst e; simp only [setAt_same]; exact ⟨hP, hb⟩
    · simp only [setAt_ne _ _ e]; exact F.pq x (by omega)
  · by_cases e : x = n
    · subst e
      rw [setAt_same] at hc
      rw [setAt_ne _ _ (Ne.symm hne)] at hc'
      exact hd y (by omega) b hc' hc
    · rw [setAt_ne _ _ e] at hc
      by_cases e2 : y = n
      · subst e2; rw [setAt_same] at hc'; exact hd x (by omega) b hc hc'
      · rw [setAt_ne _ _ e2] at hc'; exact F.apart x y (by omega) (by omega) hne b hc hc'
end
theorem upd1_setAt {α : Type} (f : Nat → α) (i : Nat) (v : α) : upd1 f i v = setAt f i v := rfl
theorem setAt_setAt {α : Type} (f : Nat → α) (i : Nat) (u v : α) : setAt (setAt f i u) i v = setAt f i v := by
  funext x; unfold setAt; split <;> rfl
theorem setAt_self {α : Type} (f : Nat → α) (i : Nat) {v : α} (h : f i = v) : setAt f i v = f := by
  funext x; unfold setAt; split
  · rename_i e; rw [e, h]
  · rfl

theorem _root_.Go.TX.Row.congr {b n : Nat} {e : TypeId} {f g : Nat → Value} (h : Row w b e n f) (hfg : ∀ x, x < n → f x = g x) : Row w b e n g := by
  unfold Row at h ⊢
  rw [h]
  congr 3
  apply List.map_congr_left
  intro x hx
  exact hfg x (List.mem_range.1 hx)
theorem Row.put {w' : World} {b n x : Nat} {e : TypeId} {f g : Nat → Value} {v : Value} (s : SetO w w' b (.cells (((List.range n).map f).toArray.setIfInBounds x v) e)) (hfg : ∀ i, i < n → setAt f x v i = g i) : Row w' b e n g := by
  have h := s.is
  rw [row_put] at h
  exact Go.TX.Row.congr (show Row w' b e n (setAt f x v) from h) hfg

/-- What is sent: from a on, up to r. -/
def items (x a r : Nat) : List Int := (List.range' a (r - a)).map fun k : Nat => ((1000 * x + k : Nat) : Int)
theorem items_nil (x : Nat) {a r : Nat} (h : r ≤ a) : items x a r = [] := by unfold items; rw [show r - a = 0 by omega]; rfl
theorem items_cons (x : Nat) {a r : Nat} (h : a < r) : items x a r = ((1000 * x + a : Nat) : Int) :: items x (a + 1) r := by
  unfold items; rw [show r - a = (r - (a + 1)) + 1 by omega, List.range'_succ]; rfl
theorem items_snoc (x k : Nat) : items x 0 (k + 1) = items x 0 k ++ [((1000 * x + k : Nat) : Int)] := by
  unfold items
  rw [show k + 1 - 0 = k + 1 by omega, show k - 0 = k by omega, List.range'_concat]; simp
theorem items_len (x a r : Nat) : (items x a r).length = r - a := by simp [items]

/-- Whoever is on. -/
def onf (rl : Nat) (B : Nat → Bool) (x : Nat) : Bool := decide (rl ≤ x) || B x
def someOn (f : Nat → Bool) (i : Nat) : Bool := (List.range i).any f
theorem someOn_succ (f : Nat → Bool) (i : Nat) : someOn f (i + 1) = (someOn f i || f i) := by simp [someOn, List.range_succ]
theorem someOn_ex {f : Nat → Bool} {i : Nat} (h : someOn f i = true) : ∃ x, x < i ∧ f x = true := by simpa [someOn] using h
def qOf (on : Nat → Bool) (nx : Nat → Nat) (r : Nat) (x : Nat) : List Int := if on x then items x (nx x) r else []
theorem qOf_cons {on : Nat → Bool} {nx : Nat → Nat} {r x : Nat} {v : Int} {qs : List Int} (h : qOf on nx r x = v :: qs) : on x = true ∧ nx x < r ∧ v = ((1000 * x + nx x : Nat) : Int) ∧ setAt (qOf on nx r) x qs = qOf on (setAt nx x (nx x + 1)) r := by
  unfold qOf at h
  split at h
  · rename_i ho
    by_cases hlt : nx x < r
    · rw [items_cons x hlt] at h
      obtain ⟨h1, h2⟩ := List.cons.inj h
      refine ⟨ho, hlt, h1.symm, ?_⟩
      funext y
      by_cases e : y = x
      · subst e; simp [qOf, ho, setAt_same, h2]
      · simp [qOf, setAt_ne _ _ e]
    · rw [items_nil x (by omega)] at h; cases h
  · cases h
theorem qOf_ne {on : Nat → Bool} {nx : Nat → Nat} {r x : Nat} (ho : on x = true) (h : nx x < r) : qOf on nx r x ≠ [] := by unfold qOf; rw [if_pos ho, items_cons x h]; simp

def casesOf (S : Nat → Shape) (i : Nat) : List (Value × Bool × Int) := (List.range i).map fun x => (.pointer (some ⟨(S x).p, 0, none⟩), false, 0)
theorem casesOf_len (S : Nat → Shape) (i : Nat) : (casesOf S i).length = i := by simp [casesOf]
theorem casesOf_get (S : Nat → Shape) {i x : Nat} (h : x < i) : (casesOf S i)[x]? = some (.pointer (some ⟨(S x).p, 0, none⟩), false, 0) := by simp [casesOf, h]
theorem casesOf_more (S : Nat → Shape) (i : Nat) (s : Shape) : casesOf (setAt S i s) (i + 1) = casesOf S i ++ [(.pointer (some ⟨s.p, 0, none⟩), false, 0)] := by
  unfold casesOf
  rw [List.range_succ, List.map_append]
  congr 1
  · apply List.map_congr_left
    intro x hx
    have : x < i := List.mem_range.1 hx
    rw [setAt_ne _ _ (by omega)]
  · simp

theorem casesOf_congr {S S' : Nat → Shape} {i : Nat} (h : ∀ x, x < i → S' x = S x) : casesOf S' i = casesOf S i := by
  unfold casesOf
  apply List.map_congr_left
  intro x hx
  rw [h x (List.mem_range.1 hx)]

/-! ### how long since -/
def dist (n k x : Nat) : Nat := (k + (n - 1) - x) % n
theorem dist_lt {n k x : Nat} (h : 0 < n) : dist n k x < n := Nat.mod_lt _ h
theorem mod_succ {n m : Nat} (h : 0 < n) (hne : (m + 1) % n ≠ 0) : m % n + 1 = (m + 1) % n := by
  have h1 := Nat.mod_lt m h
  have h2 : (m + 1) % n = (m % n + 1) % n := by rw [Nat.add_mod]; simp
  rw [h2]
  by_cases e : m % n + 1 = n
  · rw [h2, e, Nat.mod_self] at hne; exact absurd rfl hne
  · exact (Nat.mod_eq_of_lt (by omega)).symm
theorem dist_succ {n k x : Nat} (hx : x < n) (hne : k % n ≠ x) : dist n k x + 1 = dist n (k + 1) x := by
  unfold dist
  have hn : 0 < n := by omega
  rw [show k + 1 + (n - 1) - x = (k + (n - 1) - x) + 1 by omega]
  refine mod_succ hn fun h => hne ?_
  have h1 : (k + (n - 1) - x + 1) = k + n - x := by omega
  rw [h1] at h
  obtain ⟨c, hc⟩ := Nat.dvd_of_mod_eq_zero h
  -- k + n - x = n * c, so k = n (c - 1) + x
  have hc0 : c ≠ 0 := fun e => by subst e; simp at hc; omega
  have hk : k = x + n * (c - 1) := by
    obtain ⟨c', rfl⟩ := Nat.exists_eq_succ_of_ne_zero hc0
    simp only [Nat.succ_eq_add_one, Nat.add_sub_cancel, Nat.mul_add, Nat.mul_one] at hc ⊢
    omega
  rw [hk, Nat.add_mul_mod_self_left, Nat.mod_eq_of_lt hx]
theorem dist_zero {n x : Nat} (hx : x < n) : dist n 0 x = n - 1 - x := by unfold dist; rw [Nat.mod_eq_of_lt (by omega)]; omega

/-! ### a choice under an address -/
section
variable {bell ch tk l cap n k : Nat} {d : Int} {S : Nat → Shape} {cs0 : List (Value × Bool × Int)} {o : Nat → Nat} {q : Nat → List Int}
theorem Wk.under (W : Wk w bell ch tk l cap n k d S cs0 o q) {w' : World} {N : Nat} (hN : ∀ x, x < n → ∀ b, InS (S x) b → b < N) (h0 : bell < N) (h1 : ch < N) (h2 : tk < N) (h3 : l < N) (h : ∀ b, b < N → w'.heap[b]? = w.heap[b]?) : Wk w' bell ch tk l cap n k d S cs0 o q := by
  refine ⟨W.fam.keep (h _ h0) fun x hx b hb => h b (hN x hx b hb), ⟨(h _ h1).trans W.choice.obj, W.choice.tick.later (h _ h2)⟩, ⟨W.rd.pos, W.rd.max, ?_, W.rd.len, W.rd.each, W.rd.small⟩, W.tick⟩
  exact ⟨fun x c hc => (cell?_of_block (h _ h3)).trans (W.rd.cases.pipe x c hc), fun x c hc => (cell?_of_block (h _ h3)).trans (W.rd.cases.send x c hc), fun x c hc => (cell?_of_block (h _ h3)).trans (W.rd.cases.val x c hc)⟩
end
end Go.Proofs.Ytcibnfjpagmdaaa
