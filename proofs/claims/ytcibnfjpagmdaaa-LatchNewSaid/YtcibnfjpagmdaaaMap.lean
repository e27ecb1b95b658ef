/- Maps with pointers for keys: what is looked up, what is laid. -/
import Derived.Test.YtcibnfjpagmdaaaWay
set_option linter.unusedSimpArgs false
set_option linter.unusedVariables false
namespace Go.TX
open Go.Conc

theorem nw_equal (t : TypeId) (x y : Value) : Nw (Op.equal t x y) := nw_equalIn _ _ _ _
theorem nw_checkKeyP (b : Bool) (n : Nat) (t : TypeId) (x : Option Addr) : Nw (Instr.checkKey b (n + 1) t (.pointer x)) := by
  unfold Instr.checkKey
  refine Nw_bind (nw_underlying t) fun d => ?_
  split <;> first | trivial | (rename_i e; simp at e; done) | exact nw_stuck _ | skip
theorem nw_findAsking (t : TypeId) (k : Value) : ∀ (es : List MapEntry) (i : Nat), Nw (Instr.findAsking t k es i)
  | [], _ => trivial
  | e :: es, i => by
    unfold Instr.findAsking
    refine Nw_bind (nw_equal _ _ _) fun b => ?_
    split
    · trivial
    · exact nw_findAsking t k es (i + 1)
theorem nw_findKey (t : TypeId) (k : Value) (es : List MapEntry) : Nw (Instr.findKey t k es) := by
  unfold Instr.findKey
  refine Nw_bind (nw_underlying t) fun d => ?_
  split
  · trivial
  · exact nw_findAsking _ _ _ _

theorem nw_lookupP (T : TypeId) (m : Value) (x : Option Addr) (c : Bool) : Nw (Instr.lookup T m (.pointer x) c) := by
  unfold Instr.lookup
  refine Nw_bind (nw_underlying T) fun d => ?_
  split
  · dsimp only
    split
    · refine Nw_bind trivial fun es => ?_
      refine Nw_bind (nw_checkKeyP _ _ _ _) fun _ => Nw_bind (nw_findKey _ _ _) fun r => ?_
      split
      · exact Nw_bind trivial fun _ => trivial
      · exact Nw_bind (nw_zeroValue _) fun _ => Nw_bind trivial fun _ => trivial
    · refine Nw_bind (nw_getObj _) fun o => ?_
      split
      · refine Nw_bind trivial fun es => ?_
        refine Nw_bind (nw_checkKeyP _ _ _ _) fun _ => Nw_bind (nw_findKey _ _ _) fun r => ?_
        split
        · exact Nw_bind trivial fun _ => trivial
        · exact Nw_bind (nw_zeroValue _) fun _ => Nw_bind trivial fun _ => trivial
      · exact Nw_bind (nw_stuck _) fun es => Nw_bind (nw_checkKeyP _ _ _ _) fun _ => Nw_bind (nw_findKey _ _ _) fun r => (by
          split
          · exact Nw_bind trivial fun _ => trivial
          · exact Nw_bind (nw_zeroValue _) fun _ => Nw_bind trivial fun _ => trivial)
    · exact Nw_bind (nw_stuck _) fun es => Nw_bind (nw_checkKeyP _ _ _ _) fun _ => Nw_bind (nw_findKey _ _ _) fun r => (by
        split
        · exact Nw_bind trivial fun _ => trivial
        · exact Nw_bind (nw_zeroValue _) fun _ => Nw_bind trivial fun _ => trivial)
  · exact nw_stuck _

theorem nx_lookup {ρ : Operand → Value} {o : Oper} {T : TypeId} {m x : Operand} {c : Bool} {p : Option Addr} (h : o.op = .lookup T m x c) (hx : ρ x = .pointer p) : Nw (execOp ρ o) := by
  unfold execOp
  simp only [h, hx]
  exact Nw_bind (nw_lookupP _ _ _ _) fun _ => trivial

theorem wb_mapUpdateP {B : Nat → Prop} (T : TypeId) (r : Nat) (x : Option Addr) (v : Value) (hB : B r) : Wb B (Instr.mapUpdate T (.map (some r)) (.pointer x) v) := by
  unfold Instr.mapUpdate
  refine Wb_bind (wb_of_nw (nw_underlying T)) fun d => ?_
  split
  · refine Wb_bind (wb_of_nw (nw_getObj _)) fun o => ?_
    split
    · refine Wb_bind (wb_of_nw (nw_checkKeyP _ _ _ _)) fun _ => Wb_bind (wb_of_nw (nw_findKey _ _ _)) fun r => ?_
      split
      · refine Wb_bind ?_ fun k => ⟨hB, trivial, trivial⟩
        unfold Instr.keyThatStays
        split
        · trivial
        · exact Wb_bind (fun n => trivial) fun _ => trivial
      · exact ⟨hB, trivial, trivial⟩
    · exact wb_of_nw (nw_stuck _)
  · exact wb_of_nw (nw_stuck _)

section
variable {P : Program} {J : Judge P} {σ : Cfg} {w : World} {b : Frame} {a : Act} {k : List Item} {cs : List Frame} {ops : Array Oper} {i : Nat} {rest : List Nat} {o : Oper}
theorem y_lookup {T : TypeId} {x y : Operand} {c : Bool} {m v : Value} {p : Option Addr} (ho : ops[i]? = some o) (hw : Region.wanted o (yielded ops a.tmps) = true) (hk : (b.kind == CallKind.early) = false) (hop : o.op = .lookup T x y c) (hx : a.eval x = m) (hy : a.eval y = .pointer p)
    (hr : ∀ d, (Instr.lookup T m (.pointer p) c).run P (w.at d) = .ok v (w.at d)) (h : J.Y σ (G (b.at (a.put o.dst v) (.inRegion ops rest :: k)) cs) w) : J.Y σ (G (b.at a (.inRegion ops (i :: rest) :: k)) cs) w := by
  refine y_nw ho hw hk (nx_lookup hop hy) fun d _ K hK => ?_
  unfold execOp
  simp only [hop, hx, hy, Sem.run_bind, hr d, Result.andThen_ok, Sem.run_pure]
  exact hK (.act (a.put o.dst v)) w d h
theorem opX_lookup {fn : FuncId} {K : Act → Cfg → World → Prop} {T : TypeId} {x y : Operand} {c : Bool} {m v : Value} {p : Option Addr} (ho : ops[i]? = some o) (hw : Region.wanted o (yielded ops a.tmps) = true) (hop : o.op = .lookup T x y c) (hx : a.eval x = m) (hy : a.eval y = .pointer p)
    (hr : ∀ d, (Instr.lookup T m (.pointer p) c).run P (w.at d) = .ok v (w.at d)) (h : K (a.put o.dst v) σ w) : OpX J fn ops i K a σ w := by
  refine opX_nw ho hw (nx_lookup hop hy) fun d _ K' hK => ?_
  unfold execOp
  simp only [hop, hx, hy, Sem.run_bind, hr d, Result.andThen_ok, Sem.run_pure]
  exact hK (a.put o.dst v) w d h
theorem y_mapUpdate {T : TypeId} {x y z : Operand} {r : Nat} {o0 : Obj} {v : Value} {p : Option Addr} {w' : World} (ho : ops[i]? = some o) (hw : Region.wanted o (yielded ops a.tmps) = true) (hk : (b.kind == CallKind.early) = false) (hop : o.op = .mapUpdate T x y z) (hx : a.eval x = .map (some r)) (hy : a.eval y = .pointer p) (hz : a.eval z = v)
    (hm : w.heap[r]? = some o0) (hn : Obj.noView o0) (hr : ∀ d, (Instr.mapUpdate T (.map (some r)) (.pointer p) v).run P (w.at d) = .ok () (w'.at d)) (hf : σ.Free (· = r)) (h : J.Y σ (G (b.at (a.put o.dst undef) (.inRegion ops rest :: k)) cs) w') :
    J.Y σ (G (b.at a (.inRegion ops (i :: rest) :: k)) cs) w := by
  refine y_wb (· = r) ho hw hk ?_ (fun c hc => by subst hc; exact ⟨lt_of_get hm, fun o ho => by rw [hm] at ho; cases ho; exact hn⟩) hf fun d _ K hK => ?_
  · unfold execOp
    simp only [hop, hx, hy]
    exact Wb_bind (wb_mapUpdateP _ _ _ _ rfl) fun _ => trivial
  · unfold execOp
    simp only [hop, hx, hy, hz, Sem.run_bind, hr d, Result.andThen_ok, Sem.run_pure]
    exact hK (.act (a.put o.dst undef)) w' d h
theorem y_lenMap {x : Operand} {t : TypeId} {r : Nat} {es : Array MapEntry} {ck : Nat} (ho : ops[i]? = some o) (hw : Region.wanted o (yielded ops a.tmps) = true) (hk : (b.kind == CallKind.early) = false) (hop : o.op = .call { callee := .builtin .len, args := #[x], argTypes := #[t] }) (hx : a.eval x = .map (some r))
    (hl : ∃ k e, P.underlying t = some (.map k e)) (hm : w.heap[r]? = some (.map es ck)) (h : J.Y σ (G (b.at (a.put o.dst (.int .i64 (es.size : Int))) (.inRegion ops rest :: k)) cs) w) : J.Y σ (G (b.at a (.inRegion ops (i :: rest) :: k)) cs) w := by
  refine y_nw ho hw hk (nx_of (by rw [hop]; rfl)) fun d _ K hK => ?_
  obtain ⟨kt, et, hl⟩ := hl
  have hg : (getObj r).run P (w.at d) = .ok (.map es ck) (w.at d) := MapKept.run_getObj_map hm
  have hr : (Builtin.len_ #[t] o.type #[.map (some r)]).run P (w.at d) = .ok (.int .i64 (es.size : Int)) (w.at d) := by
    unfold Builtin.len_
    simp [run_underlying hl, hg, goInt]
  unfold execOp
  simp only [hop, resolve, invoke, builtin, Sem.run_bind, Sem.run_pure, Result.andThen_ok, List.map_toArray, List.map_cons, List.map_nil, hx, hr]
  exact hK (.act (a.put o.dst (.int .i64 (es.size : Int)))) w d h
end
end Go.TX
