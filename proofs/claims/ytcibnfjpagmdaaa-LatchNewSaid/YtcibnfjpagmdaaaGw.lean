/- Rules for panics that pass through callers, for deferred literals and recover, for go statements, for the way to a seat; stores beside a seat's own places. -/
import Derived.Test.YtcibnfjpagmdaaaRes
set_option linter.unusedSimpArgs false
set_option linter.unusedVariables false
namespace Go.TX
open Go.Conc
open Go.ConcN (upd upd_ne upd_same)

section
variable {P : Program} {J : Judge P} {σ : Cfg} {w : World} {b : Frame} {a : Act} {k : List Item} {cs : List Frame}

/-- A call in a frame without deferred calls: where the callee panics, so does this one. -/
theorem y_callP {ops : Array Oper} {i : Nat} {rest : List Nat} {o : Oper} {f : FuncId} {fn fn' : Func} {xs : Array Operand} {ts : Array TypeId} {R : Value → Cfg → World → Prop} {N : List PanicEntry → Cfg → World → Prop} {c : Frame}
    (ho : ops[i]? = some o) (hw : Region.wanted o (yielded ops a.tmps) = true) (hk : (b.kind == CallKind.early) = false) (hop : o.op = .call { callee := .value (.func f), args := xs, argTypes := ts })
    (hf : P.funcs[f]? = some fn) (hname : (fn.name == "runtime.NumGoroutine") = false) (hb : fn.body.isNone = false) {args : Array Value} (hc : CallsX J f args σ w R N) (hargs : xs.map a.eval = args)
    (hn : b.kind = .normal) (hd : a.defers = []) (hf' : P.funcs[b.fn]? = some fn') (HN : ∀ ch σ' w', N ch σ' w' → J.Y σ' (G (c.raise ch) cs) w')
    (hret : ∀ v σ' w', R v σ' w' → J.Y σ' (G (b.at (a.put o.dst v) (.inRegion ops rest :: k)) (c :: cs)) w') : J.Y σ (G (b.at a (.inRegion ops (i :: rest) :: k)) (c :: cs)) w :=
  y_call ho hw hk hop hf hname hb (hargs ▸ hc) hret fun ch σ' w' h => y_leave_panic hn hd hf' (HN ch σ' w' h)

/-- The same, of a function value. -/
theorem y_callPV {ops : Array Oper} {i : Nat} {rest : List Nat} {o : Oper} {f : FuncId} {fn fn' : Func} {x : Operand} {xs : Array Operand} {ts : Array TypeId} {first cap : Array Value} {R : Value → Cfg → World → Prop} {N : List PanicEntry → Cfg → World → Prop} {c : Frame}
    (ho : ops[i]? = some o) (hw : Region.wanted o (yielded ops a.tmps) = true) (hk : (b.kind == CallKind.early) = false) (hop : o.op = .call { callee := .value x, args := xs, argTypes := ts }) (hx : a.eval x = .func (.func f) first cap)
    (hf : P.funcs[f]? = some fn) (hname : (fn.name == "runtime.NumGoroutine") = false) (hb : fn.body.isNone = false) {args : Array Value} (hc : CallsX J f args σ w R N) (hargs : first ++ xs.map a.eval ++ cap = args)
    (hn : b.kind = .normal) (hd : a.defers = []) (hf' : P.funcs[b.fn]? = some fn') (HN : ∀ ch σ' w', N ch σ' w' → J.Y σ' (G (c.raise ch) cs) w')
    (hret : ∀ v σ' w', R v σ' w' → J.Y σ' (G (b.at (a.put o.dst v) (.inRegion ops rest :: k)) (c :: cs)) w') : J.Y σ (G (b.at a (.inRegion ops (i :: rest) :: k)) (c :: cs)) w :=
  y_callV ho hw hk hop hx hf hname hb (hargs ▸ hc) hret fun ch σ' w' h => y_leave_panic hn hd hf' (HN ch σ' w' h)

/-- A deferred call of a function literal. -/
def dlit (f : FuncId) (cap : Array Value) : Deferred := { target := .fn (.func f) cap, args := #[] }

theorem stepG_defer_lit {main : Bool} {ops : Array Oper} {i : Nat} {rest : List Nat} {o : Oper} {f : FuncId} {x : Operand} {cap : Array Value} (ho : ops[i]? = some o) (hw : Region.wanted o (yielded ops a.tmps) = true) (hk : b.kind ≠ .early)
    (hop : o.op = .defer { callee := .value x, args := #[], argTypes := #[] }) (hx : a.eval x = .func (.func f) #[] cap) :
    stepG P main (G (b.at a (.inRegion ops (i :: rest) :: k)) cs) w = .go (G (b.at (Act.put ⟨a.tmps, dlit f cap :: a.defers⟩ o.dst undef) (.inRegion ops rest :: k)) cs) w #[] := by
  have hr : (execOp a.eval o).run P w = .ok (.defer (dlit f cap)) w := by
    unfold execOp
    simp [hop, resolve, Deferred.ofValue, hx, dlit]
  have he : (execOp a.eval o).events P w #[] = #[] := by
    unfold execOp
    simp [hop, resolve, Deferred.ofValue, hx]
  have hfin : (b.at ⟨a.tmps, dlit f cap :: a.defers⟩ (.inRegion ops (i :: rest) :: k)).finish undef = b.at (Act.put ⟨a.tmps, dlit f cap :: a.defers⟩ o.dst undef) (.inRegion ops rest :: k) := by rw [Frame.finish_at, ho]; rfl
  have hk' : (b.kind == CallKind.early) = false := by simpa using hk
  rw [stepG_oper ho hw, ← hfin]
  simp [stepG.apply, hr, he, G, Frame.at, hk', GStep.after, seen_none]

theorem stepG_lit_enter {main : Bool} {todo : List Item} {ds : List Deferred} {f : FuncId} {fn : Func} {cap : Array Value} (hd : a.defers = dlit f cap :: ds) (hf : P.funcs[f]? = some fn) (hname : (fn.name == "runtime.NumGoroutine") = false) (hb : fn.body.isNone = false) :
    stepG P main (G { b.at a todo with mode := .returning } cs) w = .go (G (Frame.enter P f cap .deferred) ({ b.at ⟨a.tmps, ds⟩ todo with mode := .returning } :: cs)) w #[] := by
  have h1 : ¬ fn.name = "runtime.NumGoroutine" := by simpa using hname
  have h2 : ¬ fn.body = none := by cases hx : fn.body <;> simp_all
  simp [G, stepG, unwind, callDeferred, Frame.at, hd, dlit, invoke, callFunc, hf, h1, h2, GStep.after, seen_none]
theorem stepG_lit_enterP {main : Bool} {todo : List Item} {ds : List Deferred} {f : FuncId} {fn : Func} {cap : Array Value} {ch : List PanicEntry} (hd : a.defers = dlit f cap :: ds) (hf : P.funcs[f]? = some fn) (hname : (fn.name == "runtime.NumGoroutine") = false) (hb : fn.body.isNone = false) :
    stepG P main (G { b.at a todo with mode := .panicking ch } cs) w = .go (G (Frame.enter P f cap .deferred) ({ b.at ⟨a.tmps, ds⟩ todo with mode := .panicking ch } :: cs)) w #[] := by
  have h1 : ¬ fn.name = "runtime.NumGoroutine" := by simpa using hname
  have h2 : ¬ fn.body = none := by cases hx : fn.body <;> simp_all
  simp [G, stepG, unwind, callDeferred, Frame.at, hd, dlit, invoke, callFunc, hf, h1, h2, GStep.after, seen_none]

/-- recover, where nobody panics. -/
theorem stepG_recover_nil {main : Bool} {ops : Array Oper} {i : Nat} {rest : List Nat} {o : Oper} {ts : Array TypeId} {c : Frame} (ho : ops[i]? = some o) (hw : Region.wanted o (yielded ops a.tmps) = true) (hk : b.kind = .deferred) (hr0 : b.roundOf = none)
    (hop : o.op = .call { callee := .builtin .recover, args := #[], argTypes := ts }) (hc : c.mode = .returning) :
    stepG P main (G (b.at a (.inRegion ops (i :: rest) :: k)) (c :: cs)) w = .go (G (b.at (a.put o.dst .nilIface) (.inRegion ops rest :: k)) (c :: cs)) w #[] := by
  have hr : (execOp a.eval o).run P w = .ok .recover w := by
    unfold execOp
    simp [hop, resolve, invoke, builtin]
  have he : (execOp a.eval o).events P w #[] = #[] := by
    unfold execOp
    simp [hop, resolve, invoke, builtin]
  have hfin : (b.at a (.inRegion ops (i :: rest) :: k)).finish .nilIface = b.at (a.put o.dst .nilIface) (.inRegion ops rest :: k) := by rw [Frame.finish_at, ho]; rfl
  rw [stepG_oper ho hw, ← hfin]
  simp [stepG.apply, hr, he, G, Frame.at, hk, hr0, tryRecover, hc, GStep.after, seen_none]
/-- recover, where the caller panics. -/
theorem stepG_recover_some {main : Bool} {ops : Array Oper} {i : Nat} {rest : List Nat} {o : Oper} {ts : Array TypeId} {c : Frame} {v : Value} {older : List PanicEntry} (ho : ops[i]? = some o) (hw : Region.wanted o (yielded ops a.tmps) = true) (hk : b.kind = .deferred) (hr0 : b.roundOf = none)
    (hop : o.op = .call { callee := .builtin .recover, args := #[], argTypes := ts }) (hc : c.mode = .panicking ({ v := v, recovered := false } :: older)) :
    stepG P main (G (b.at a (.inRegion ops (i :: rest) :: k)) (c :: cs)) w = .go (G (b.at (a.put o.dst v) (.inRegion ops rest :: k)) ({ c with mode := .panicking ({ v := v, recovered := true } :: older) } :: cs)) w #[] := by
  have hr : (execOp a.eval o).run P w = .ok .recover w := by
    unfold execOp
    simp [hop, resolve, invoke, builtin]
  have he : (execOp a.eval o).events P w #[] = #[] := by
    unfold execOp
    simp [hop, resolve, invoke, builtin]
  have hfin : (b.at a (.inRegion ops (i :: rest) :: k)).finish v = b.at (a.put o.dst v) (.inRegion ops rest :: k) := by rw [Frame.finish_at, ho]; rfl
  rw [stepG_oper ho hw, ← hfin]
  simp [stepG.apply, hr, he, G, Frame.at, hk, hr0, tryRecover, hc, GStep.after, seen_none]

/-! ### on the way to a seat -/
theorem onWay_at {main : Bool} {s : SeatX} {ops : Array Oper} {i : Nat} {rest : List Nat} {o : Oper} (ho : ops[i]? = some o) (hw : Region.wanted o (yielded ops a.tmps) = true) (hk : (b.kind == CallKind.early) = false)
    (hr : ∀ w, (execOp a.eval o).run P w = .ok (.comm #[rcase s.c s.z] true (.recv false)) w) (he : ∀ w, (execOp a.eval o).events P w #[] = #[]) (hg : s.g = G (b.at a (.inRegion ops (i :: rest) :: k)) cs) :
    OnWay P main s 0 (G (b.at a (.inRegion ops (i :: rest) :: k)) cs) := by
  refine ⟨rfl, fun w => ?_⟩
  rw [stepG_comm ho hw (fun e => by rw [e] at hk; cases hk) (hr w), hg]
  unfold listed
  rw [he, seen_none]
theorem onWay_ctl {main : Bool} {s : SeatX} {n : Nat} {g g' : Goroutine} (hs : g.status = .running) (h : ∀ w, stepG P main g w = .go g' w #[]) (hn : OnWay P main s n g') : OnWay P main s (n + 1) g :=
  .inr ⟨hs, g', #[], by simp, fun w _ => h w, hn⟩
theorem onWay_op {main : Bool} {s : SeatX} {n : Nat} {ops : Array Oper} {i : Nat} {rest : List Nat} {o : Oper} (v : Value) (ho : ops[i]? = some o) (hw : Region.wanted o (yielded ops a.tmps) = true) (hk : (b.kind == CallKind.early) = false)
    (hr : ∀ w, (execOp a.eval o).run P w = .ok (.value v) w) (he : ∀ w, (execOp a.eval o).events P w #[] = #[]) (hn : OnWay P main s n (G (b.at (a.put o.dst v) (.inRegion ops rest :: k)) cs)) :
    OnWay P main s (n + 1) (G (b.at a (.inRegion ops (i :: rest) :: k)) cs) :=
  onWay_ctl rfl (fun w => by rw [stepG_value ho hw (fun e => by rw [e] at hk; cases hk) (hr w)]; unfold listed; rw [he, seen_none]) hn
theorem onWay_load {main : Bool} {s : SeatX} {n : Nat} {ops : Array Oper} {i : Nat} {rest : List Nat} {o : Oper} (ad : Addr) (v : Value) (ho : ops[i]? = some o) (hw : Region.wanted o (yielded ops a.tmps) = true) (hk : (b.kind == CallKind.early) = false)
    (hm : (ad, v) ∈ s.still) (hr : ∀ w, w.cell? ad = some v → (execOp a.eval o).run P w = .ok (.value v) w) (he : ∀ w, w.cell? ad = some v → listed P b.fn a o w = #[⟨.cell ad, false, false⟩])
    (hn : OnWay P main s n (G (b.at (a.put o.dst v) (.inRegion ops rest :: k)) cs)) : OnWay P main s (n + 1) (G (b.at a (.inRegion ops (i :: rest) :: k)) cs) := by
  refine .inr ⟨rfl, _, #[⟨.cell ad, false, false⟩], fun e h => ⟨(ad, v), hm, by simpa using h⟩, fun w hK => ?_, hn⟩
  rw [stepG_value ho hw (fun e => by rw [e] at hk; cases hk) (hr w (hK _ hm)), he w (hK _ hm)]

/-! ### a goroutine's first step -/
theorem born_lit {main : Bool} {f : FuncId} {fn : Func} {cap : Array Value} (hf : P.funcs[f]? = some fn) (hname : (fn.name == "runtime.NumGoroutine") = false) (hb : fn.body.isNone = false) :
    stepG P main (born P (dlit f cap)) w = .go (G (Frame.enter P f cap .deferred) [{ (default : Frame) with fn := P.funcs.size, defers := [], mode := .panicking [goexitEntry] }]) w #[] := by
  have h1 : ¬ fn.name = "runtime.NumGoroutine" := by simpa using hname
  have h2 : ¬ fn.body = none := by cases hx : fn.body <;> simp_all
  simp [born, dlit, stepG, unwind, callDeferred, invoke, callFunc, hf, h1, h2, seen, GStep.after, G]

/-! ### stores at some cells of a block -/
/-- Cells of one block, from one place on. -/
def InRow (g lo hi : Nat) (p : Addr) : Prop := p.block = g ∧ lo ≤ p.off ∧ p.off < hi
/-- No seat leans on these cells. -/
def Cfg.FreeC (σ : Cfg) (g lo hi : Nat) : Prop := ∀ i s, σ.seat i = some s → s.c ≠ g ∧ ∀ p ∈ s.still, ¬ InRow g lo hi p.1
theorem Cfg.Free.cells {σ : Cfg} {g lo hi : Nat} (h : σ.Free (· = g)) : σ.FreeC g lo hi := fun i s e => ⟨(h i s e).1, fun p hp hq => (h i s e).2 p hp hq.1⟩
end
end Go.TX
