/- Several pipes and a choice over them, one goroutine alone: what a Select does to the whole. -/
import Derived.Test.YtcibnfjpagmdaaaSel
set_option linter.unusedSimpArgs false
set_option linter.unusedVariables false
set_option maxRecDepth 100000
set_option maxHeartbeats 4000000
namespace Go.Proofs.Ytcibnfjpagmdaaa
open Go.TX Go.Conc Go.RowKit Go.MapKept
variable {J : Judge Try.prog} {σ : Cfg} {w : World}

structure Wk (w : World) (bell ch tk l cap n k : Nat) (d : Int) (S : Nat → Shape) (cs0 : List (Value × Bool × Int)) (o : Nat → Nat) (q : Nat → List Int) : Prop where
  fam : Fam w bell d n S o q
  choice : ChIs w ch bell tk (k : Int)
  rd : Ready w l cap n S cs0 o q
  tick : tk ≠ bell ∧ ∀ x, x < n → ¬ (S x).cell tk

section
variable {bell ch tk l cap n k : Nat} {d : Int} {S : Nat → Shape} {cs0 : List (Value × Bool × Int)} {o : Nat → Nat} {q : Nat → List Int}

theorem Wk.row (W : Wk w bell ch tk l cap n k d S cs0 o q) {b : Nat} {v : Int} (h : CellIs w b v) : l ≠ b := fun e => by
  subst e
  obtain ⟨va, hva⟩ := W.rd.each 0 W.rd.pos
  have := W.rd.cases.pipe 0 _ hva
  simp only [Nat.zero_mul] at this
  rw [h.v] at this; cases this

theorem Wk.refused (W : Wk w bell ch tk l cap n k d S cs0 o q) : CallsX J 142 #[.pointer (some ⟨ch, 0, none⟩), .slice (some ⟨l, 0, none⟩) n cap] σ w fun r σ' w' => r = .int .i64 0 ∧ σ' = σ ∧ Grew w w' := by
  obtain ⟨hn, hmax, hl, hN, hcs, hsm⟩ := W.rd
  have h := refused_list (J := J) (σ := σ) ch l cap bell cs0 (List.replicate n (some bell)) W.choice.c0 W.fam.isBell hl (by simp [hN]) (by omega) (by omega) fun x c e hc he => by
    have hx : x < n := by have := (List.getElem?_eq_some_iff.1 hc).1; omega
    obtain ⟨va, hva⟩ := hcs x hx
    rw [hva] at hc; cases hc
    rw [List.getElem?_replicate, if_pos hx] at he
    cases he
    obtain ⟨hP, hb⟩ := W.fam.pq x hx
    exact .made _ _ bell d hP.laid.p0 (hb ▸ hP.laid.p2) W.fam.isBell
  rw [hN] at h
  refine h.mono fun r σ' w' ⟨h1, h2, h3⟩ => ⟨?_, h2, h3⟩
  rw [h1]
  have e1 : ¬ none ∈ List.replicate n (some bell) := by simp [List.mem_replicate]
  have e2 : ¬ List.replicate n (some bell) = [] := by simp; omega
  have e3 : ¬ ∃ b ∈ List.replicate n (some bell), b ≠ some bell := by simp [List.mem_replicate]
  simp only [refCode, if_neg e1, if_neg e2, if_neg e3]

theorem upd1_small (W : Wk w bell ch tk l cap n k d S cs0 o q) {y : Nat} (hy : y < n) {v : Int} {qs : List Int} (hq : q y = v :: qs) : ∀ x, x < n → upd1 o y (o y + 1) x + (upd1 q y qs x).length < 2 ^ 60 := fun x hx => by
  unfold upd1
  by_cases e : x = y
  · subst e
    have := W.rd.small x hx
    rw [hq] at this
    simp only [if_true]
    simp at this
    omega
  · simp only [if_neg e]; exact W.rd.small x hx

theorem Wk.next {w' : World} (W : Wk w bell ch tk l cap n k d S cs0 o q) {k' : Nat} {d' : Int} {o' : Nat → Nat} {q' : Nat → List Int} (hold : ∀ b, b < w.heap.size → (∀ x, x < n → ¬ (S x).cell b) → b ≠ bell → b ≠ tk → w'.heap[b]? = w.heap[b]?)
    (hC : ChIs w' ch bell tk (k' : Int)) (hF : Fam w' bell d' n S o' q') (hs : ∀ x, x < n → o' x + (q' x).length < 2 ^ 60) : Wk w' bell ch tk l cap n k' d' S cs0 o' q' := by
  refine ⟨hF, hC, ⟨W.rd.pos, W.rd.max, ?_, W.rd.len, W.rd.each, hs⟩, W.tick⟩
  have hlt : l < w.heap.size := by
    obtain ⟨va, hva⟩ := W.rd.each 0 W.rd.pos
    exact lt_of_cell (W.rd.cases.pipe 0 _ hva)
  have e := hold l hlt (fun x hx h => by obtain ⟨u, hu⟩ := (W.fam.pq x hx).1.cellIs h; exact W.row hu rfl) (W.row W.fam.isBell) (W.row W.choice.tick)
  exact ⟨fun x c h => (cell?_of_block e).trans (W.rd.cases.pipe x c h), fun x c h => (cell?_of_block e).trans (W.rd.cases.send x c h), fun x c h => (cell?_of_block e).trans (W.rd.cases.val x c h)⟩

theorem Wk.select {t : Value} (W : Wk w bell ch tk l cap n k d S cs0 o q) (hoff : ∀ w', Off w' t) (hk : k < 2 ^ 39) (hex : ∃ x, x < n ∧ q x ≠ []) (hf : ∀ b, σ.Free (· = b)) :
    CallsX J 46 #[.pointer (some ⟨ch, 0, none⟩), t, .slice (some ⟨l, 0, none⟩) n cap] σ w fun r σ' w' => σ' = σ ∧ w.heap.size ≤ w'.heap.size ∧ (∀ b, b < w.heap.size → (∀ x, x < n → ¬ (S x).cell b) → b ≠ bell → b ≠ tk → w'.heap[b]? = w.heap[b]?) ∧
      ∃ y v qs, y < n ∧ q y = v :: qs ∧ (∃ j, j < n ∧ y = (k % n + j) % n ∧ ∀ i, i < j → q ((k % n + i) % n) = []) ∧ r = .tuple #[.int .i64 (y : Int), .int .i64 v, .bool true, .int .i64 0] ∧ Wk w' bell ch tk l cap n (k + 1) (IntKind.i64.wrap (d + 1)) S cs0 (upd1 o y (o y + 1)) (upd1 q y qs) := by
  refine (select_recv (J := J) (cap := cap) W.refused hoff W.rd W.choice W.fam W.tick hk hex hf).mono ?_
  rintro r σ' w' ⟨h1, h2, h3, h4, j, v, qs, hj, hq, hno, hr, hF⟩
  have hy : (k % n + j) % n < n := Nat.mod_lt _ W.rd.pos
  exact ⟨h1, h2, h3, _, v, qs, hy, hq, ⟨j, hj, rfl, hno⟩, hr, W.next h3 h4 hF (upd1_small W hy hq)⟩

theorem Wk.try {t : Value} (W : Wk w bell ch tk l cap n k d S cs0 o q) (hoff : ∀ w', Off w' t) (hk : k < 2 ^ 39) (hf : ∀ b, σ.Free (· = b)) :
    CallsX J 47 #[.pointer (some ⟨ch, 0, none⟩), t, .slice (some ⟨l, 0, none⟩) n cap] σ w fun r σ' w' => σ' = σ ∧ w.heap.size ≤ w'.heap.size ∧ (∀ b, b < w.heap.size → (∀ x, x < n → ¬ (S x).cell b) → b ≠ bell → b ≠ tk → w'.heap[b]? = w.heap[b]?) ∧
      ((∃ y v, y < n ∧ q y ≠ [] ∧ r = .tuple #[.int .i64 (y : Int), .int .i64 v, .bool true, .int .i64 0]) ∨ ((∀ x, x < n → q x = []) ∧ r = .tuple #[.int .i64 (-1), .int .i64 0, .bool false, .int .i64 0])) := by
  refine (try_recv (J := J) (cap := cap) W.refused hoff W.rd W.choice W.fam W.tick hk hf).mono ?_
  rintro r σ' w' ⟨h1, h2, h3, h4, ⟨j, v, qs, hj, hq, hno, hr, hF⟩ | ⟨hq, hr, hF⟩⟩
  · exact ⟨h1, h2, h3, .inl ⟨_, v, Nat.mod_lt _ W.rd.pos, by rw [hq]; simp, hr⟩⟩
  · exact ⟨h1, h2, h3, .inr ⟨hq, hr⟩⟩

/-- A send into one of them. -/
theorem Fam.send {t : Value} {v : Int} (F : Fam w bell d n S o q) {x : Nat} (hx : x < n) (hroom : (q x).length < (S x).n) (hs : o x + (q x).length < 2 ^ 60) (hoff : ∀ w', Off w' t) (hf : ∀ b, σ.Free (· = b)) :
    CallsX J 49 #[.pointer (some ⟨(S x).p, 0, none⟩), t, .int .i64 v] σ w fun r σ' w' => r = .int .i8 1 ∧ σ' = σ ∧ Fam w' bell (IntKind.i64.wrap (d + 1)) n S (upd1 o x (o x)) (upd1 q x (q x ++ [v])) ∧ OnlyCells w w' (S x) := by
  obtain ⟨hP, hb⟩ := F.pq x hx
  refine (pq_send (J := J) (d := d) hP hroom hs hoff (hb ▸ F.isBell) fun b _ => hf b).mono ?_
  rintro r σ' w' ⟨h1, h2, h3, h4, h5⟩
  exact ⟨h1, h2, F.turn hx h3 (hb ▸ h4) h5, h5⟩
end
end Go.Proofs.Ytcibnfjpagmdaaa
