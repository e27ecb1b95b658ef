/- Leaving a function whose results lie in cells, or are more than two. -/
import Derived.Test.YtcibnfjpagmdaaaTop
namespace Go.TX
/-- A fact that the walk's simp is not to see. -/
def Keep (p : Prop) : Prop := p
theorem Keep.mk {p : Prop} (h : p) : Keep p := h
theorem Keep.out {p : Prop} (h : Keep p) : p := h
open Go.Conc

/-- Some of the temporaries, by number. -/
def TmAll (A : Array Value) : List (Nat × Value) → Prop
  | [] => True
  | p :: ps => A.getD p.1 undef = p.2 ∧ TmAll A ps
def Tm (a : Act) (n : Nat) (fs : List (Nat × Value)) : Prop := a.defers = [] ∧ a.tmps.size = n ∧ TmAll a.tmps fs
def JAll (j : Nat → Value) : List (Nat × Value) → Prop
  | [] => True
  | p :: ps => j p.1 = p.2 ∧ JAll j ps
theorem jAll_of {A : Array Value} : ∀ {fs : List (Nat × Value)}, TmAll A fs → JAll (fun k => A.getD k undef) fs
  | [], _ => trivial
  | _ :: _, h => ⟨h.1, jAll_of h.2⟩
theorem Tm.lit {a : Act} {n : Nat} {fs : List (Nat × Value)} (h : Tm a n fs) : ∃ j : Nat → Value, a = ⟨((List.range n).map j).toArray, []⟩ ∧ JAll j fs := by
  obtain ⟨hd, hs, hf⟩ := h
  refine ⟨fun k => a.tmps.getD k undef, ?_, jAll_of hf⟩
  obtain ⟨tmps, defers⟩ := a
  simp only at hd hs
  subst hd
  congr 1
  apply Array.ext
  · simp [hs]
  · intro i h1 h2
    simp [h1]

section
variable {P : Program} {J : Judge P} {σ : Cfg} {w : World} {b : Frame} {a : Act} {k : List Item} {cs : List Frame}


theorem nw_mapMR {α β : Type} {f : α → Sem β} (h : ∀ a, Nw (f a)) (l : Array α) : Nw (l.mapM f) := nw_mapMA h l
theorem nw_results (fn : Func) (tmps : Array Value) : Nw (results fn tmps) := by
  unfold results
  refine Nw_bind (nw_mapMA (fun r => ?_) _) fun _ => trivial
  cases r with
  | tmp t => trivial
  | cell a t => exact Nw_bind (nw_asAddr _) fun ad => nw_loadVar _ _

theorem stepG_leave_ev {main : Bool} {fn : Func} {todo : List Item} {c : Frame} {v : Value} {w : World} (hn : b.kind = .normal) (hd : a.defers = []) (hf : P.funcs[b.fn]? = some fn) (hr : (results fn a.tmps).run P w = .ok v w) :
    stepG P main (G { b.at a todo with mode := .returning } (c :: cs)) w = .go (G (c.finish v) cs) w (seen P b.fn ((results fn a.tmps).events P w #[])) := by
  simp [G, stepG, unwind, doReturn, Frame.at, hn, hd, hf, hr, GStep.after]

/-- Leaving, results in cells. -/
theorem y_leaveC {fn : Func} {todo : List Item} {c : Frame} {v : Value} (hn : b.kind = .normal) (hd : a.defers = []) (hf : P.funcs[b.fn]? = some fn) (hr : ∀ d, (results fn a.tmps).run P (w.at d) = .ok v (w.at d)) (h : J.Y σ (G (c.finish v) cs) w) :
    J.Y σ (G { b.at a todo with mode := .returning } (c :: cs)) w := by
  refine J.step σ _ _ w fun d hS => ?_
  rw [stepG_leave_ev hn hd hf (hr d)]
  obtain ⟨h1, h2⟩ := nw_runT P (nw_results fn a.tmps) (w.at d) #[]
  rw [Sem.runT_eq] at h1 h2
  have hE : ∀ e ∈ seen P b.fn ((results fn a.tmps).events P (w.at d) #[]), EvGood e := fun e he => (h1 e (mem_seen he)).elim (fun x => by simp at x) id
  have hok : OkayQ σ (w.at d) (w.at d) (seen P b.fn ((results fn a.tmps).events P (w.at d) #[])) := okay_within hS (within_grown (Grown.refl _) hE) (free_none σ)
  refine ⟨hok.1, ?_⟩
  rw [deaf_quiet' hok.2]
  exact J.at' _ _ _ _ h

theorem resultsC_tmp3 {fn : Func} {t u x : Tmp} (h : fn.results = #[.tmp t, .tmp u, .tmp x]) (tmps : Array Value) : ResultsC P fn tmps (.tuple #[tmps.getD t undef, tmps.getD u undef, tmps.getD x undef]) := fun w => ⟨by simp [results, h], by simp [results, h]⟩
theorem resultsC_tmp4 {fn : Func} {t u x y : Tmp} (h : fn.results = #[.tmp t, .tmp u, .tmp x, .tmp y]) (tmps : Array Value) : ResultsC P fn tmps (.tuple #[tmps.getD t undef, tmps.getD u undef, tmps.getD x undef, tmps.getD y undef]) := fun w => ⟨by simp [results, h], by simp [results, h]⟩
end
end Go.TX
