/- The outermost function: under the token's judgement, and on the lone machine. -/
import Derived.Test.YtcibnfjpagmdaaaDraw
import Derived.Calls
namespace Go.TX
open Go.Conc

section
variable {P : Program} {J : Judge P} {σ : Cfg} {w : World}

/-- A record that is about to leave function f with v. -/
def Leaves (P : Program) (f : FuncId) (fr : Frame) (v : Value) : Prop := fr.mode = .returning ∧ fr.defers = [] ∧ fr.kind = .normal ∧ fr.fn = f ∧ ∃ fn, P.funcs[f]? = some fn ∧ ResultsC P fn fr.tmps v

/-- A call, up to where it is about to leave; over any callers. -/
def TopX (J : Judge P) (f : FuncId) (args : Array Value) (σ : Cfg) (w : World) (R : Value → Cfg → World → Prop) : Prop :=
  ∀ cs, (∀ fr v σ' w', Leaves P f fr v → R v σ' w' → J.Y σ' (G fr cs) w') → J.Y σ (G (Frame.enter P f args .normal) cs) w

theorem TopX.calls {f : FuncId} {args : Array Value} {R : Value → Cfg → World → Prop} (h : TopX J f args σ w R) : CallsX J f args σ w R := by
  intro c cs H _
  refine h (c :: cs) fun fr v σ' w' hl hR => ?_
  obtain ⟨hm, hd, hk, hf, fn, hfn, hr⟩ := hl
  refine J.silent (fun w => ?_) (H v σ' w' hR)
  subst hf
  simp [G, stepG, unwind, doReturn, hm, hd, hk, hfn, (hr w).1, (hr w).2, seen, GStep.after]

theorem topX_body {f : FuncId} {fn : Func} {c : Code} {args : Array Value} {R : Value → Cfg → World → Prop} (hf : P.funcs[f]? = some fn) (hb : fn.body = some c)
    (h : ∀ (cs : List Frame), (∀ fr v σ' w', Leaves P f fr v → R v σ' w' → J.Y σ' (G fr cs) w') →
      J.Y σ (G ((base f).at { tmps := args ++ Array.replicate (fn.ntmps - args.size) undef, defers := [] } [.code c]) cs) w) : TopX J f args σ w R := by
  intro cs H
  rw [enter_at args hf hb]
  exact h cs H

theorem leaves_at {b : Frame} {a : Act} {todo : List Item} {fn : Func} {v : Value} (hn : b.kind = .normal) (hd : a.defers = []) (hf : P.funcs[b.fn]? = some fn) (hr : ResultsC P fn a.tmps v) : Leaves P b.fn { b.at a todo with mode := .returning } v :=
  ⟨rfl, hd, hn, rfl, fn, hf, hr⟩

theorem TopX.mono {f : FuncId} {args : Array Value} {R R' : Value → Cfg → World → Prop} (h : TopX J f args σ w R) (hr : ∀ v σ' w', R v σ' w' → R' v σ' w') : TopX J f args σ w R' :=
  fun cs H => h cs fun fr v σ' w' hl r => H fr v σ' w' hl (hr _ _ _ r)

/-! ### the token's judgement -/
theorem topX_run {Post : Value → World → Prop} {f : FuncId} {args : Array Value} {R : Value → Cfg → World → Prop} (hi : P.inits.idxOf? f = none)
    (h : TopX (tokenJ P (Goal P Post)) f args (cfg0 w) w R) (hR : ∀ v σ' w', R v σ' w' → σ'.h = 0 ∧ σ'.seat = (fun _ => none) ∧ (w'.os = σ'.os → w'.output = σ'.out → ∀ d, Post v (w'.at d))) :
    ∃ M last o w' t', runNT P (M + 1) (crowd #[G (Frame.enter P f args .normal) []] w none) #[] = (.ended o w', t') ∧ runN P M (crowd #[G (Frame.enter P f args .normal) []] w none) = .next last ∧ step P last = .ended o w' ∧ Go.Conc.Good P Post last o w' t' := by
  refine X_run (h [] fun fr v σ' w' hl r => ?_)
  obtain ⟨h1, h2, h3⟩ := hR v σ' w' r
  obtain ⟨hm, hd, hk, hf, fn, hfn, hr⟩ := hl
  subst hf
  exact X_done h1 h2 rfl (fun w => by simp [G, stepG, unwind, doReturn, hm, hd, hk, hfn, (hr w).1, (hr w).2, seen, GStep.after, hi]) h3

/-! ### the lone machine -/
def loneJ (P : Program) (cs0 : List Frame) (Fin : Frame → World → Prop) : Judge P where
  main := fun _ => true
  Y := fun σ g w => (σ.seat = fun _ => none) → (w.os = σ.os ∧ w.output = σ.out) → ∃ fr cs, g = G fr cs ∧ ∀ d, ∃ fr' w', Steps P (lone fr cs (w.at d)) (lone fr' cs0 w') ∧ Fin fr' w'
  at' := fun σ g w d h hs io => by
    obtain ⟨fr, cs, e, h⟩ := h hs io
    exact ⟨fr, cs, e, fun d' => by rw [at_at']; exact h d'⟩
  snd := fun σ g w h hs => h (fun i s e => by rw [hs] at e; cases e) hs
  step := fun σ fr cs w h hs io => by
    refine ⟨fr, cs, rfl, fun d => ?_⟩
    have hg := h d (fun i s e => by rw [hs] at e; cases e)
    cases hgo : stepG P true (G fr cs) (w.at d) with
    | go g' w' es =>
      rw [hgo, goes_go] at hg
      obtain ⟨hok, hY⟩ := hg
      obtain ⟨fr1, cs1, e1, hZ⟩ := hY hs ⟨hok.io.1.trans io.1, hok.io.2.trans io.2⟩
      subst e1
      obtain ⟨fr', w2, hst, hf⟩ := hZ w'.drawn
      refine ⟨fr', w2, .head (step_lone_go ?_) hst, hf⟩
      have : stepG P true { frame := fr, callers := cs, status := .running, dying := none } (w.at d) = .go (G fr1 cs1) w' es := hgo
      rw [this]; rfl
    | _ => rw [hgo] at hg; exact hg.elim

theorem topX_calls {f : FuncId} {args : Array Value} {R : Value → Cfg → World → Prop} {R' : Ending → World → Prop} (h : ∀ (J : Judge P), TopX J f args (cfg0 w) w R) (hR : ∀ v σ' w', R v σ' w' → (σ'.seat = fun _ => none) ∧ (w'.os = σ'.os → w'.output = σ'.out → ∀ d, R' (.returned v) (w'.at d))) : Calls P f args w R' := by
  intro cs
  obtain ⟨fr, cs', e, H⟩ := h (loneJ P cs fun fr w' => ∃ v, Leaves P f fr v ∧ R' (.returned v) w') cs (fun fr v σ' w' hl r hs io => ⟨fr, cs, rfl, fun d => ⟨fr, w'.at d, .refl _ _, v, hl, (hR v σ' w' r).2 io.1 io.2 d⟩⟩) rfl ⟨rfl, rfl⟩
  obtain ⟨rfl, rfl⟩ : fr = Frame.enter P f args .normal ∧ cs' = cs := by
    simp only [G, Goroutine.mk.injEq] at e
    exact ⟨e.1.symm, e.2.1.symm⟩
  obtain ⟨fr', w', hst, v, hl, hr⟩ := H w.drawn
  obtain ⟨hm, hd, hk, hf, fn, hfn, hres⟩ := hl
  exact ⟨.returned v, w', fr', hr, hst, hf, hm, hd, hk, fn, by rw [hf]; exact hfn, (hres w').1⟩
end
end Go.TX
