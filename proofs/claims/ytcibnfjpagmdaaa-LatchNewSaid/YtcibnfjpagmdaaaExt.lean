/- Calls of the model's own entries under a judgement that is kept backward: atomic accesses, marks; deferred calls. -/
import Derived.Test.YtcibnfjpagmdaaaCall
import Derived.Conc.AtomicLaws2
import Derived.Conc.MarkLaws
import Derived.Conc.DeferLaws
import Derived.Conc.SmallLaws
import Derived.Laws.LoneSync
namespace Go.TX
open Go.Conc

section
variable {P : Program} {J : Judge P} {σ : Cfg} {w : World} {b : Frame} {a : Act} {k : List Item} {cs : List Frame}

theorem neq_early {b : Frame} (hk : (b.kind == CallKind.early) = false) : b.kind ≠ .early := fun e => by rw [e] at hk; cases hk

section
variable {f : FuncId} {fn : Func} {ops : Array Oper} {i : Nat} {rest : List Nat} {o : Oper} {ats : Array TypeId} {as : Array Operand} {e : Array Value → Sem Value}

/-- AN ENTRY OF THE MODEL's YIELDS A VALUE. -/
theorem y_entry (ho : ops[i]? = some o) (hw : Region.wanted o (yielded ops a.tmps) = true) (hk : (b.kind == CallKind.early) = false) (hop : o.op = .call { callee := .value (.func f), args := as, argTypes := ats })
    (hf : P.funcs[f]? = some fn) (hname : (fn.name == "runtime.NumGoroutine") = false) (hb : fn.body.isNone = true) (hn : Extern.findNext fn = none) (he : Extern.find fn = some e)
    {v : Value} {w' : World} {evs : Array Event} (hrun : ∀ d, (e (as.map a.eval)).run P (w.at d) = .ok v (w'.at d))
    (hev : ∀ d, (e (as.map a.eval)).events P (w.at d) #[⟨.mark (.extern f), false, true⟩] = #[⟨.mark (.extern f), false, true⟩] ++ evs) (hs : ∀ x ∈ evs, x.sync = true ∧ ∀ g, x.loc ≠ .mark (.extern g))
    (hok : ∀ d, σ.Sound w → Okay σ (w.at d) (w'.at d) evs) (hY : J.Y { σ with dl := deafBehind σ.dl evs } (G (b.at (a.put o.dst v) (.inRegion ops rest :: k)) cs) w') :
    J.Y σ (G (b.at a (.inRegion ops (i :: rest) :: k)) cs) w := by
  refine J.step σ _ _ w fun d hS => ?_
  rw [stepG_entry ho hw (neq_early hk) hop hf hname hb hn he (hrun d) (hev d) hs]
  exact ⟨hok d (sound_at hS), J.at' _ _ _ _ hY⟩

/-- A mark. -/
theorem okay_mark {w w' : World} {m : Mark} (hm : (MemAct.ofEvent ⟨.mark m, false, true⟩).touch? = none) (h : w' = w) : Okay σ w w' #[⟨.mark m, false, true⟩] := by
  subst h
  refine ⟨fun _ _ _ => rfl, fun _ _ _ _ _ => rfl, fun ev hev t ht => ?_, rfl, rfl⟩
  simp only [List.mem_toArray, List.mem_cons, List.not_mem_nil, or_false] at hev
  subst hev
  rw [hm] at ht; cases ht

theorem y_disable (ho : ops[i]? = some o) (hw : Region.wanted o (yielded ops a.tmps) = true) (hk : (b.kind == CallKind.early) = false) (hop : o.op = .call { callee := .value (.func f), args := as, argTypes := ats })
    (hf : P.funcs[f]? = some fn) (hname : (fn.name == "runtime.NumGoroutine") = false) (hb : fn.body.isNone = true) (hn : Extern.findNext fn = none) (he : Extern.find fn = some (fun _ => do mark .disable; pure Extern.Race.none_))
    (hY : J.Y { σ with dl := σ.dl + 1 } (G (b.at (a.put o.dst (.tuple #[])) (.inRegion ops rest :: k)) cs) w) : J.Y σ (G (b.at a (.inRegion ops (i :: rest) :: k)) cs) w := by
  refine y_entry (v := .tuple #[]) (w' := w) (evs := #[⟨.mark .disable, false, true⟩]) ho hw hk hop hf hname hb hn he (fun d => by simp [Extern.Race.none_]) (fun d => by simp) ?_ (fun d _ => okay_mark rfl rfl) (by simpa [deafBehind] using hY)
  intro x hx; simp at hx; subst hx; exact ⟨rfl, fun g h => by cases h⟩
theorem y_enable (ho : ops[i]? = some o) (hw : Region.wanted o (yielded ops a.tmps) = true) (hk : (b.kind == CallKind.early) = false) (hop : o.op = .call { callee := .value (.func f), args := as, argTypes := ats })
    (hf : P.funcs[f]? = some fn) (hname : (fn.name == "runtime.NumGoroutine") = false) (hb : fn.body.isNone = true) (hn : Extern.findNext fn = none) (he : Extern.find fn = some (fun _ => do mark .enable; pure Extern.Race.none_))
    (hY : J.Y { σ with dl := σ.dl - 1 } (G (b.at (a.put o.dst (.tuple #[])) (.inRegion ops rest :: k)) cs) w) : J.Y σ (G (b.at a (.inRegion ops (i :: rest) :: k)) cs) w := by
  refine y_entry (v := .tuple #[]) (w' := w) (evs := #[⟨.mark .enable, false, true⟩]) ho hw hk hop hf hname hb hn he (fun d => by simp [Extern.Race.none_]) (fun d => by simp) ?_ (fun d _ => okay_mark rfl rfl) (by simpa [deafBehind] using hY)
  intro x hx; simp at hx; subst hx; exact ⟨rfl, fun g h => by cases h⟩
theorem y_markAt (mk : Addr → Mark) {x : Operand} (hm : ∀ ad, (MemAct.ofEvent ⟨.mark (mk ad), false, true⟩).touch? = none ∧ mk ad ≠ .disable ∧ mk ad ≠ .enable ∧ ∀ g, mk ad ≠ .extern g) (ho : ops[i]? = some o) (hw : Region.wanted o (yielded ops a.tmps) = true) (hk : (b.kind == CallKind.early) = false) (hop : o.op = .call { callee := .value (.func f), args := #[x], argTypes := ats })
    (hf : P.funcs[f]? = some fn) (hname : (fn.name == "runtime.NumGoroutine") = false) (hb : fn.body.isNone = true) (hn : Extern.findNext fn = none) (he : Extern.find fn = some (Extern.Race.marked mk)) {ad : Addr} (hx : a.eval x = .pointer (some ad))
    (hY : J.Y σ (G (b.at (a.put o.dst (.tuple #[])) (.inRegion ops rest :: k)) cs) w) : J.Y σ (G (b.at a (.inRegion ops (i :: rest) :: k)) cs) w := by
  refine y_entry (v := .tuple #[]) (w' := w) (evs := #[⟨.mark (mk ad), false, true⟩]) ho hw hk hop hf hname hb hn he (fun d => by simp [Extern.Race.marked, Extern.Race.at_, hx, Extern.Race.none_]) (fun d => by simp [Extern.Race.marked, Extern.Race.at_, hx]) ?_ (fun d _ => okay_mark (hm ad).1 rfl) ?_
  · intro x hx; simp at hx; subst hx; exact ⟨rfl, fun g h => (hm ad).2.2.2 g (Loc.mark.inj h)⟩
  · rw [deaf_quiet']
    · exact hY
    · intro x hx; simp at hx; subst hx; exact ⟨fun h => (hm ad).2.1 (Loc.mark.inj h), fun h => (hm ad).2.2.1 (Loc.mark.inj h)⟩
end

/-- A call that returns. -/
theorem y_callR {ops : Array Oper} {i : Nat} {rest : List Nat} {o : Oper} {f : FuncId} {fn : Func} {xs : Array Operand} {ts : Array TypeId} {R : Value → Cfg → World → Prop}
    (ho : ops[i]? = some o) (hw : Region.wanted o (yielded ops a.tmps) = true) (hk : (b.kind == CallKind.early) = false) (hop : o.op = .call { callee := .value (.func f), args := xs, argTypes := ts })
    (hf : P.funcs[f]? = some fn) (hname : (fn.name == "runtime.NumGoroutine") = false) (hb : fn.body.isNone = false) {args : Array Value} (hc : CallsX J f args σ w R) (hargs : xs.map a.eval = args)
    (hret : ∀ v σ' w', R v σ' w' → J.Y σ' (G (b.at (a.put o.dst v) (.inRegion ops rest :: k)) cs) w') : J.Y σ (G (b.at a (.inRegion ops (i :: rest) :: k)) cs) w :=
  y_call ho hw hk hop hf hname hb (hargs ▸ hc) hret fun _ _ _ h => h.elim

/-! ### atomic accesses -/
theorem setCell_heap_ne {w : World} {ad : Addr} {v : Value} {c : Nat} (h : c ≠ ad.block) : (w.setCell ad v).heap[c]? = w.heap[c]? := by
  unfold World.setCell
  simp only [Array.getElem?_modify]
  rw [if_neg (fun e => h e.symm)]
theorem setCell_size {w : World} {ad : Addr} {v : Value} : (w.setCell ad v).heap.size = w.heap.size := by unfold World.setCell; simp

theorem within_atomic {w : World} {ad : Addr} {v : Value} {es : Array Event} (hes : ∀ e ∈ es, ∃ wr, e = ⟨.cell ad, wr, true⟩) : Within (· = ad.block) w (w.setCell ad v) es := by
  refine ⟨by rw [setCell_size]; exact Nat.le_refl _, fun c _ hc => setCell_heap_ne hc, fun e he t ht hw a hl => ?_, fun e he => ?_, rfl, rfl⟩
  · obtain ⟨wr, rfl⟩ := hes e he
    left
    simp only [MemAct.ofEvent, MemAct.touch?] at ht
    cases wr <;> simp at ht <;> subst ht <;> simp at hl <;> exact hl ▸ rfl
  · obtain ⟨wr, rfl⟩ := hes e he; exact ⟨by simp, by simp⟩
theorem within_atomic_r {w : World} {ad : Addr} : Within (· = ad.block) w w #[⟨.cell ad, false, true⟩] := by
  refine ⟨Nat.le_refl _, fun c _ hc => rfl, fun e he t ht hw a hl => ?_, fun e he => ?_, rfl, rfl⟩
  · simp at he; subst he
    left
    simp only [MemAct.ofEvent, MemAct.touch?] at ht
    simp at ht <;> subst ht <;> simp at hl <;> exact hl ▸ rfl
  · simp at he; subst he; exact ⟨by simp, by simp⟩

section
variable {f : FuncId} {fn : Func} {ops : Array Oper} {i : Nat} {rest : List Nat} {o : Oper} {ats : Array TypeId} {ad : Addr} {kd : IntKind}

theorem y_aload (kd : IntKind) {x : Operand} (ho : ops[i]? = some o) (hw : Region.wanted o (yielded ops a.tmps) = true) (hk : (b.kind == CallKind.early) = false) (hop : o.op = .call { callee := .value (.func f), args := #[x], argTypes := ats })
    (hf : P.funcs[f]? = some fn) (hname : (fn.name == "runtime.NumGoroutine") = false) (hb : fn.body.isNone = true) (hn : Extern.findNext fn = none) (he : Extern.find fn = some (Extern.Atomic.loadT (.int kd)))
    {v : Int} (hx : a.eval x = .pointer (some ad)) (hc : w.cell? ad = some (.int kd v))
    (hY : J.Y σ (G (b.at (a.put o.dst (.int kd v)) (.inRegion ops rest :: k)) cs) w) : J.Y σ (G (b.at a (.inRegion ops (i :: rest) :: k)) cs) w := by
  refine J.step σ _ _ w fun d hS => ?_
  rw [stepG_load_atomic ho hw (neq_early hk) hop hf hname hb hn kd he hx (show (w.at d).cell? ad = _ from hc)]
  have hok : OkayQ σ (w.at d) (w.at d) #[⟨.cell ad, false, true⟩] := by
    refine ⟨⟨fun _ _ _ => rfl, fun _ _ _ _ _ => rfl, fun ev hev t ht hw => ?_, rfl, rfl⟩, fun e he => ?_⟩
    · simp at hev; subst hev
      simp only [MemAct.ofEvent, MemAct.touch?] at ht
      simp at ht; subst ht; cases hw
    · simp at he; subst he; exact ⟨by simp, by simp⟩
  refine ⟨hok.1, ?_⟩
  rw [deaf_quiet' hok.2]
  exact J.at' _ _ _ _ hY

theorem y_astore {x y : Operand} (ho : ops[i]? = some o) (hw : Region.wanted o (yielded ops a.tmps) = true) (hk : (b.kind == CallKind.early) = false) (hop : o.op = .call { callee := .value (.func f), args := #[x, y], argTypes := ats })
    (hf : P.funcs[f]? = some fn) (hname : (fn.name == "runtime.NumGoroutine") = false) (hb : fn.body.isNone = true) (hn : Extern.findNext fn = none) (he : Extern.find fn = some Extern.Atomic.storeT)
    {v : Int} {u : Value} (hx : a.eval x = .pointer (some ad)) (hy : a.eval y = .int kd v) (hc : w.cell? ad = some u) (hz : w.frozen? ad = false) (hfr : σ.Free (· = ad.block))
    (hY : J.Y σ (G (b.at (a.put o.dst (.tuple #[])) (.inRegion ops rest :: k)) cs) (w.setCell ad (.int kd v))) : J.Y σ (G (b.at a (.inRegion ops (i :: rest) :: k)) cs) w := by
  refine J.step σ _ _ w fun d hS => ?_
  rw [stepG_store_atomic ho hw (neq_early hk) hop hf hname hb hn he hx hy (show (w.at d).cell? ad = _ from hc) (show (w.at d).frozen? ad = _ from hz)]
  have hok : OkayQ σ (w.at d) ((w.at d).setCell ad (.int kd v)) #[⟨.cell ad, true, true⟩] := okay_within hS (within_atomic (by intro e he; simp at he; exact ⟨_, he⟩)) hfr
  refine ⟨hok.1, ?_⟩
  rw [deaf_quiet' hok.2]
  exact J.at' _ _ (w.setCell ad (.int kd v)) d hY

theorem y_aadd (kd : IntKind) {x y : Operand} (ho : ops[i]? = some o) (hw : Region.wanted o (yielded ops a.tmps) = true) (hk : (b.kind == CallKind.early) = false) (hop : o.op = .call { callee := .value (.func f), args := #[x, y], argTypes := ats })
    (hf : P.funcs[f]? = some fn) (hname : (fn.name == "runtime.NumGoroutine") = false) (hb : fn.body.isNone = true) (hn : Extern.findNext fn = none) (he : Extern.find fn = some (Extern.Atomic.update (Op.intArith .add) kd true))
    {v u : Int} (hx : a.eval x = .pointer (some ad)) (hy : a.eval y = .int kd u) (hc : w.cell? ad = some (.int kd v)) (hz : w.frozen? ad = false) (hfr : σ.Free (· = ad.block))
    (hY : J.Y σ (G (b.at (a.put o.dst (.int kd (kd.wrap (v + u)))) (.inRegion ops rest :: k)) cs) (w.setCell ad (.int kd (kd.wrap (v + u))))) : J.Y σ (G (b.at a (.inRegion ops (i :: rest) :: k)) cs) w := by
  refine J.step σ _ _ w fun d hS => ?_
  rw [stepG_add_atomic ho hw (neq_early hk) hop hf hname hb hn kd he hx hy (show (w.at d).cell? ad = _ from hc) (show (w.at d).frozen? ad = _ from hz)]
  have hok : OkayQ σ (w.at d) ((w.at d).setCell ad (.int kd (kd.wrap (v + u)))) #[⟨.cell ad, false, true⟩, ⟨.cell ad, true, true⟩] := okay_within hS (within_atomic (by intro e he; simp at he; rcases he with rfl | rfl <;> exact ⟨_, rfl⟩)) hfr
  refine ⟨hok.1, ?_⟩
  rw [deaf_quiet' hok.2]
  exact J.at' _ _ (w.setCell ad _) d hY

theorem y_acas_hit (kd : IntKind) {x y z : Operand} (ho : ops[i]? = some o) (hw : Region.wanted o (yielded ops a.tmps) = true) (hk : (b.kind == CallKind.early) = false) (hop : o.op = .call { callee := .value (.func f), args := #[x, y, z], argTypes := ats })
    (hf : P.funcs[f]? = some fn) (hname : (fn.name == "runtime.NumGoroutine") = false) (hb : fn.body.isNone = true) (hn : Extern.findNext fn = none) (he : Extern.find fn = some (Extern.Atomic.casT (.int kd)))
    {v n : Int} (hx : a.eval x = .pointer (some ad)) (hy : a.eval y = .int kd v) (hzz : a.eval z = .int kd n) (hc : w.cell? ad = some (.int kd v)) (hz : w.frozen? ad = false) (hfr : σ.Free (· = ad.block))
    (hY : J.Y σ (G (b.at (a.put o.dst (.bool true)) (.inRegion ops rest :: k)) cs) (w.setCell ad (.int kd n))) : J.Y σ (G (b.at a (.inRegion ops (i :: rest) :: k)) cs) w := by
  refine J.step σ _ _ w fun d hS => ?_
  rw [stepG_cas_hit ho hw (neq_early hk) hop hf hname hb hn kd he hx hy hzz (show (w.at d).cell? ad = _ from hc) (show (w.at d).frozen? ad = _ from hz)]
  have hok : OkayQ σ (w.at d) ((w.at d).setCell ad (.int kd n)) #[⟨.cell ad, false, true⟩, ⟨.cell ad, true, true⟩] := okay_within hS (within_atomic (by intro e he; simp at he; rcases he with rfl | rfl <;> exact ⟨_, rfl⟩)) hfr
  refine ⟨hok.1, ?_⟩
  rw [deaf_quiet' hok.2]
  exact J.at' _ _ (w.setCell ad _) d hY

theorem y_acas_miss (kd : IntKind) {x y z : Operand} (ho : ops[i]? = some o) (hw : Region.wanted o (yielded ops a.tmps) = true) (hk : (b.kind == CallKind.early) = false) (hop : o.op = .call { callee := .value (.func f), args := #[x, y, z], argTypes := ats })
    (hf : P.funcs[f]? = some fn) (hname : (fn.name == "runtime.NumGoroutine") = false) (hb : fn.body.isNone = true) (hn : Extern.findNext fn = none) (he : Extern.find fn = some (Extern.Atomic.casT (.int kd)))
    {v old n : Int} (hx : a.eval x = .pointer (some ad)) (hy : a.eval y = .int kd old) (hzz : a.eval z = .int kd n) (hc : w.cell? ad = some (.int kd v)) (hz : w.frozen? ad = false) (hne : ¬ v = old)
    (hY : J.Y σ (G (b.at (a.put o.dst (.bool false)) (.inRegion ops rest :: k)) cs) w) : J.Y σ (G (b.at a (.inRegion ops (i :: rest) :: k)) cs) w := by
  refine J.step σ _ _ w fun d hS => ?_
  rw [stepG_cas_miss ho hw (neq_early hk) hop hf hname hb hn kd he hx hy hzz (show (w.at d).cell? ad = _ from hc) (show (w.at d).frozen? ad = _ from hz) hne]
  have hok : OkayQ σ (w.at d) (w.at d) #[⟨.cell ad, false, true⟩] := by
    refine ⟨⟨fun _ _ _ => rfl, fun _ _ _ _ _ => rfl, fun ev hev t ht hw => ?_, rfl, rfl⟩, fun e he => ?_⟩
    · simp at hev; subst hev
      simp only [MemAct.ofEvent, MemAct.touch?] at ht
      simp at ht; subst ht; cases hw
    · simp at he; subst he; exact ⟨by simp, by simp⟩
  refine ⟨hok.1, ?_⟩
  rw [deaf_quiet' hok.2]
  exact J.at' _ _ _ _ hY

theorem run_swap_entry {v n : Int} (hc : w.cell? ad = some (.int kd v)) (hz : w.frozen? ad = false) : (Extern.Atomic.swapT (.int kd) #[.pointer (some ad), .int kd n]).run P w = .ok (.int kd v) (w.setCell ad (.int kd n)) := by
  change Sem.run P (do
    let a' ← asAddr (.pointer (some ad))
    let old ← Extern.Atomic.read (.int kd) a'
    store a' (.int kd n) .atomic
    pure old) w = _
  simp [Extern.Atomic.read, asAddr, hc, hz, run_store P w ad (.int kd n) .atomic rfl, Result.andThen]
theorem events_swap_entry {v n : Int} (hc : w.cell? ad = some (.int kd v)) (hz : w.frozen? ad = false) (es : Array Event) : (Extern.Atomic.swapT (.int kd) #[.pointer (some ad), .int kd n]).events P w es = (es.push ⟨.cell ad, false, true⟩).push ⟨.cell ad, true, true⟩ := by
  change Sem.events P (do
    let a' ← asAddr (.pointer (some ad))
    let old ← Extern.Atomic.read (.int kd) a'
    store a' (.int kd n) .atomic
    pure old) w es = _
  simp [Extern.Atomic.read, asAddr, hc, hz, events_load, events_store P w _ ad (.int kd n) .atomic rfl, Result.evThen]

theorem y_aswap (kd : IntKind) {x y : Operand} (ho : ops[i]? = some o) (hw : Region.wanted o (yielded ops a.tmps) = true) (hk : (b.kind == CallKind.early) = false) (hop : o.op = .call { callee := .value (.func f), args := #[x, y], argTypes := ats })
    (hf : P.funcs[f]? = some fn) (hname : (fn.name == "runtime.NumGoroutine") = false) (hb : fn.body.isNone = true) (hn : Extern.findNext fn = none) (he : Extern.find fn = some (Extern.Atomic.swapT (.int kd)))
    {v n : Int} (hx : a.eval x = .pointer (some ad)) (hy : a.eval y = .int kd n) (hc : w.cell? ad = some (.int kd v)) (hz : w.frozen? ad = false) (hfr : σ.Free (· = ad.block))
    (hY : J.Y σ (G (b.at (a.put o.dst (.int kd v)) (.inRegion ops rest :: k)) cs) (w.setCell ad (.int kd n))) : J.Y σ (G (b.at a (.inRegion ops (i :: rest) :: k)) cs) w := by
  have hm : (#[x, y] : Array Operand).map a.eval = #[.pointer (some ad), .int kd n] := by simp [hx, hy]
  refine J.step σ _ _ w fun d hS => ?_
  rw [stepG_entry ho hw (neq_early hk) hop hf hname hb hn he (by rw [hm]; exact run_swap_entry (show (w.at d).cell? ad = _ from hc) (show (w.at d).frozen? ad = _ from hz)) (by rw [hm, events_swap_entry (show (w.at d).cell? ad = _ from hc) (show (w.at d).frozen? ad = _ from hz)]; rfl) (sync_rw ad)]
  have hok : OkayQ σ (w.at d) ((w.at d).setCell ad (.int kd n)) #[⟨.cell ad, false, true⟩, ⟨.cell ad, true, true⟩] := okay_within hS (within_atomic (by intro e he; simp at he; rcases he with rfl | rfl <;> exact ⟨_, rfl⟩)) hfr
  refine ⟨hok.1, ?_⟩
  rw [deaf_quiet' hok.2]
  exact J.at' _ _ (w.setCell ad _) d hY

/-- A pointer is taken for an untyped one. -/
theorem y_unsafe {src dst t : TypeId} {x : Operand} {v : Value} (ho : ops[i]? = some o) (hw : Region.wanted o (yielded ops a.tmps) = true) (hk : (b.kind == CallKind.early) = false) (hop : o.op = .convert src dst x)
    (hs : P.underlying src = some (.pointer t)) (hd : P.underlying dst = some .unsafePointer) (hsz : (P.info? t).map (fun i => decide (i.size = 0)) = some false) (hx : a.eval x = .pointer (some ad)) (hc : w.cell? ad = some v)
    (hY : J.Y σ (G (b.at (a.put o.dst (.pointer (some ad))) (.inRegion ops rest :: k)) cs) w) : J.Y σ (G (b.at a (.inRegion ops (i :: rest) :: k)) cs) w := by
  have hr : ∀ w, w.cell? ad = some v → (execOp a.eval o).run P w = .ok (.value (.pointer (some ad))) w := fun w hc => by
    unfold execOp; simp [hop, hx, run_convert_to_unsafe hs hd hsz hc]
  have hE : ∀ w, w.cell? ad = some v → (execOp a.eval o).events P w #[] = #[] := fun w hc => by
    unfold execOp; simp [hop, hx, events_convert_to_unsafe hs hd hsz hc]
  refine J.step σ _ _ w fun d hS => ?_
  rw [stepG_value ho hw (neq_early hk) (hr (w.at d) hc)]
  have : listed P b.fn a o (w.at d) = #[] := by unfold listed; rw [hE (w.at d) hc]; exact seen_none P _
  rw [this]
  exact ⟨(okay_within hS (within_grown (Grown.refl _) (by simp)) (free_none σ)).1, J.at' _ _ _ _ hY⟩
end

/-! ### deferred calls -/
theorem y_defer {ops : Array Oper} {i : Nat} {rest : List Nat} {o : Oper} {f : FuncId} {as : Array Operand} {ats : Array TypeId} (ho : ops[i]? = some o) (hw : Region.wanted o (yielded ops a.tmps) = true) (hk : (b.kind == CallKind.early) = false)
    (hop : o.op = .defer { callee := .value (.func f), args := as, argTypes := ats })
    (hY : J.Y σ (G (b.at (Act.put ⟨a.tmps, dcall f (as.map a.eval) :: a.defers⟩ o.dst undef) (.inRegion ops rest :: k)) cs) w) : J.Y σ (G (b.at a (.inRegion ops (i :: rest) :: k)) cs) w :=
  J.silent (fun _ => stepG_defer ho hw (neq_early hk) hop) hY

/-- A deferred call of a function with a Go body, by its contract as a plain function of its own kind of frame. -/
def CallsXD (J : Judge P) (f : FuncId) (args : Array Value) (σ : Cfg) (w : World) (R : Cfg → World → Prop) : Prop :=
  ∀ (c : Frame) (cs : List Frame), c.mode = .returning → (∀ σ' w', R σ' w' → J.Y σ' (G c cs) w') → J.Y σ (G (Frame.enter P f args .deferred) (c :: cs)) w

theorem y_unwind {todo : List Item} {ds : List Deferred} {f : FuncId} {fn : Func} {args : Array Value} {R : Cfg → World → Prop} (hd : a.defers = dcall f args :: ds) (hf : P.funcs[f]? = some fn) (hname : (fn.name == "runtime.NumGoroutine") = false) (hb : fn.body.isNone = false)
    (h : CallsXD J f args σ w R) (hR : ∀ σ' w', R σ' w' → J.Y σ' (G { b.at ⟨a.tmps, ds⟩ todo with mode := .returning } cs) w') : J.Y σ (G { b.at a todo with mode := .returning } cs) w := by
  cases hbb : fn.body with
  | none => rw [hbb] at hb; cases hb
  | some c =>
    refine J.silent (g' := G (Frame.enter P f args .deferred) ({ b.at ⟨a.tmps, ds⟩ todo with mode := .returning } :: cs)) (fun w => ?_) (h _ _ rfl hR)
    rw [stepG_unwind_enter hd hf hname hbb, enter_atD args hf hbb]

theorem callsD_body {f : FuncId} {fn : Func} {c : Code} {args : Array Value} {R : Cfg → World → Prop} (hf : P.funcs[f]? = some fn) (hb : fn.body = some c)
    (h : ∀ (d : Frame) (cs : List Frame), d.mode = .returning → (∀ σ' w', R σ' w' → J.Y σ' (G d cs) w') →
      J.Y σ (G ((baseD f).at { tmps := args ++ Array.replicate (fn.ntmps - args.size) undef, defers := [] } [.code c]) (d :: cs)) w) : CallsXD J f args σ w R := by
  intro d cs hm H
  rw [enter_atD args hf hb]
  exact h d cs hm H

theorem y_leaveD {fn : Func} {todo : List Item} {c : Frame} {v : Value} (hn : b.kind = .deferred) (hd : a.defers = []) (hf : P.funcs[b.fn]? = some fn) (hr : ResultsC P fn a.tmps v) (hc : c.mode = .returning) (h : J.Y σ (G c cs) w) :
    J.Y σ (G { b.at a todo with mode := .returning } (c :: cs)) w :=
  J.silent (fun w => stepG_leave_deferred hn hd hf (hr w).1 (hr w).2 hc) h
end
end Go.TX
