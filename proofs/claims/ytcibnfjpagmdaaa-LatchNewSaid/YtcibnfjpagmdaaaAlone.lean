/- The hand of a goroutine that is alone with the cells (no thread): calls are computed. -/
import Derived.Test.YtcibnfjpagmdaaaHand
set_option linter.unusedSimpArgs false
set_option linter.unusedVariables false
set_option maxRecDepth 100000
set_option maxHeartbeats 2000000
namespace Go.Proofs.Ytcibnfjpagmdaaa
open Go.TX Go.Conc Go.RowKit Go.MapKept

section
variable {J : Judge Try.prog} {σ : Cfg} {w : World}
theorem setB_num {b : Nat} {v : Int} (h : CellIs w b v) (u : Int) : SetB w (w.setCell ⟨b, 0, none⟩ (.int .i64 u)) b (cellObj u) := num_set h u
theorem setB_same {b : Nat} {v : Int} (h : CellIs w b v) : SetB w w b (cellObj v) := ⟨h, rfl, fun _ _ => rfl⟩

/-- Alone: no thread, nobody sleeps. -/
def freeHand (J : Judge Try.prog) : Hand J (.pointer none) where
  St := fun a Φ σ w => ∃ v, CellIs w a.cell v ∧ σ.Free (· = a.cell) ∧ a.op ≠ 6 ∧ ∀ w', SetB w w' a.cell (cellObj (a.now v)) → Φ v σ w'
  N := fun _ _ _ => False
  mono := fun h ⟨v, h1, h2, h3, h4⟩ => ⟨v, h1, h2, h3, fun w' hS => h v _ w' (h4 w' hS)⟩
  load := fun ⟨v, h1, h2, h3, h4⟩ => (cell_load h1 rfl).mono fun r σ' w' ⟨e1, e2, e3⟩ => ⟨v, e1, by rw [e2, e3]; exact h4 _ (setB_same h1)⟩
  store := fun ⟨v, h1, h2, h3, h4⟩ => (cell_store h1 rfl h2).mono fun r σ' w' ⟨e1, e2, e3⟩ => ⟨e1, v, by rw [e2, e3]; exact h4 _ (setB_num h1 _)⟩
  cas := fun {c old new Φ σ w} ⟨v, h1, h2, h3, h4⟩ => (cell_cas h1 rfl h2).mono fun r σ' w' ⟨e1, e2, e3⟩ => ⟨v, e1, by
    rw [e2, e3]
    by_cases e : v = old
    · rw [if_pos e]
      have := h4 _ (show SetB w _ c (cellObj ((⟨3, c, old, new⟩ : Acc).now v)) from by simp only [Acc.now, e]; simpa using setB_num h1 new)
      exact this
    · rw [if_neg e]
      exact h4 _ (show SetB w w c (cellObj ((⟨3, c, old, new⟩ : Acc).now v)) from by simp only [Acc.now]; simpa [e] using setB_same h1)⟩
  add := fun ⟨v, h1, h2, h3, h4⟩ => (cell_add h1 rfl h2).mono fun r σ' w' ⟨e1, e2, e3⟩ => ⟨v, e1, by rw [e2, e3]; exact h4 _ (setB_num h1 _)⟩
  swap := fun ⟨v, h1, h2, h3, h4⟩ => (cell_swap h1 rfl h2).mono fun r σ' w' ⟨e1, e2, e3⟩ => ⟨v, e1, by rw [e2, e3]; exact h4 _ (setB_num h1 _)⟩
  park := fun ⟨v, h1, h2, h3, h4⟩ => absurd rfl h3

/-- A machine that is alone: what it comes to, and what the cells hold then. -/
def Mach.run {R : Type} (M : Mach R) : Nat → M.K → (Nat → Int) → Option (R × (Nat → Int))
  | 0, _, _ => none
  | n + 1, k, m => match M.obs k with
    | .inr r => some (r, m)
    | .inl a => if a.op = 6 then none else M.run n (M.nxt k (m a.cell)) (setAt m a.cell (a.now (m a.cell)))

/-- Cells in S hold m. -/
structure Holds (S : Nat → Prop) (σ : Cfg) (w : World) (m : Nat → Int) : Prop where
  is : ∀ c, S c → CellIs w c (m c)
  free : ∀ c, S c → σ.Free (· = c)
theorem Holds.set {S : Nat → Prop} {m : Nat → Int} {w' : World} {c : Nat} {v : Int} (h : Holds S σ w m) (hS : SetB w w' c (cellObj v)) : Holds S σ w' (setAt m c v) :=
  ⟨fun d hd => by
    by_cases e : d = c
    · subst e; rw [setAt_same]; exact hS.is
    · rw [setAt_ne _ _ e]; exact (h.is d hd).later (hS.other d e), h.free⟩

/-- All accesses of the machine go to cells in S. -/
def Mach.In {R : Type} (M : Mach R) (S : Nat → Prop) : Prop := ∀ k a, M.obs k = .inl a → S a.cell

structure Same (S : Nat → Prop) (w w' : World) : Prop where
  size : w'.heap.size = w.heap.size
  old : ∀ b, ¬ S b → w'.heap[b]? = w.heap[b]?
theorem Same.refl (S : Nat → Prop) (w : World) : Same S w w := ⟨rfl, fun _ _ => rfl⟩
theorem Same.set {S : Nat → Prop} {w1 w2 : World} {c : Nat} {o : Obj} (h : Same S w w1) (hS : SetB w1 w2 c o) (hc : S c) : Same S w w2 :=
  ⟨hS.size.trans h.size, fun b hb => (hS.other b fun e => hb (e ▸ hc)).trans (h.old b hb)⟩

theorem acts_alone {R : Type} {M : Mach R} {S : Nat → Prop} {Lay : Cfg → World → Prop} {n : Nat} {k : M.K} {m m' : Nat → Int} {r : R} {w0 : World} (hin : M.In S) (hlay : ∀ w', Same S w0 w' → Lay σ w') (hw : Same S w0 w) (hh : Holds S σ w m) (hr : M.run n k m = some (r, m')) :
    Acts (freeHand J) M Lay (fun r' σ' w' => r' = r ∧ σ' = σ ∧ Same S w0 w' ∧ Holds S σ w' m') n k σ w := by
  induction n generalizing k m w with
  | zero => simp [Mach.run] at hr
  | succ n ih =>
    refine ⟨hlay w hw, fun a ha => ?_, fun r' hr' => ?_⟩
    · unfold Mach.run at hr
      simp only [ha] at hr
      by_cases h6 : a.op = 6
      · simp [h6] at hr
      · simp only [h6, if_false] at hr
        have hS := hin k a ha
        exact ⟨m a.cell, hh.is _ hS, hh.free _ hS, h6, fun w' hw' => ih (hw.set hw' hS) (hh.set hw') hr⟩
    · unfold Mach.run at hr
      simp only [hr', Option.some.injEq, Prod.mk.injEq] at hr
      obtain ⟨rfl, rfl⟩ := hr
      exact ⟨rfl, rfl, hw, hh⟩
end
end Go.Proofs.Ytcibnfjpagmdaaa
