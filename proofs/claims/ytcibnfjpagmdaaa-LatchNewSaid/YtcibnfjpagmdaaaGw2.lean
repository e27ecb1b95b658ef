/- Stores of some cells of a block, beside places that seats lean on. -/
import Derived.Test.YtcibnfjpagmdaaaGw
set_option linter.unusedSimpArgs false
set_option linter.unusedVariables false
namespace Go.TX
open Go.Conc

/-- One block is laid anew. -/
structure SetB (w w' : World) (b : Nat) (o : Obj) : Prop where
  is : w'.heap[b]? = some o
  size : w'.heap.size = w.heap.size
  other : ∀ c, c ≠ b → w'.heap[c]? = w.heap[c]?

def putAt (cur : Array Value) (off : Nat) : List Value → Array Value
  | [] => cur
  | v :: vs => putAt (cur.setIfInBounds off v) (off + 1) vs
theorem putAt_other : ∀ (vs : List Value) (cur : Array Value) (off j : Nat), ¬ (off ≤ j ∧ j < off + vs.length) → (putAt cur off vs)[j]? = cur[j]?
  | [], _, _, _, _ => rfl
  | v :: vs, cur, off, j, h => by
    simp only [List.length_cons] at h
    rw [putAt, putAt_other vs _ (off + 1) j (by omega), Array.getElem?_setIfInBounds_ne (by omega)]
theorem putAt_size : ∀ (vs : List Value) (cur : Array Value) (off : Nat), (putAt cur off vs).size = cur.size
  | [], _, _ => rfl
  | v :: vs, cur, off => by rw [putAt, putAt_size]; simp

theorem setCell_put {w : World} {g j : Nat} {c : Array Value} {e : TypeId} {fz : Nat × Nat} (h : w.heap[g]? = some (.cells c e fz)) (v : Value) : SetB w (w.setCell ⟨g, j, none⟩ v) g (.cells (c.setIfInBounds j v) e fz) := by
  refine ⟨?_, setCell_size, fun d hd => setCell_heap_ne hd⟩
  unfold World.setCell
  simp only [Array.getElem?_modify, if_true, h, Option.map_some]
  rfl

section
variable {P : Program} {σ : Cfg} {w : World}

theorem storeCells_go (P : Program) (g off : Nat) (e : TypeId) : ∀ (vs : List Value) (i : Nat) (cur : Array Value) (w : World) (es : Array Event), w.heap[g]? = some (.cells cur e (0, 0)) → off + i + vs.length ≤ cur.size → (∀ v ∈ vs, v.oneCell' = true) →
    ∃ w' evs, (storeCells ⟨g, off, none⟩ vs i).run P w = .ok () w' ∧ (storeCells ⟨g, off, none⟩ vs i).events P w es = es ++ evs ∧ (∀ d, (storeCells ⟨g, off, none⟩ vs i).run P (w.at d) = .ok () (w'.at d)) ∧ (∀ d, (storeCells ⟨g, off, none⟩ vs i).events P (w.at d) es = es ++ evs) ∧
      (∀ ev ∈ evs, ∃ j, off + i ≤ j ∧ j < off + i + vs.length ∧ ev = ⟨.cell ⟨g, j, none⟩, true, false⟩) ∧ SetB w w' g (.cells (putAt cur (off + i) vs) e (0, 0)) ∧ w'.os = w.os ∧ w'.output = w.output
  | [], i, cur, w, es, hg, _, _ => ⟨w, #[], by simp [storeCells], by simp [storeCells], by simp [storeCells], by simp [storeCells], by simp, ⟨hg, rfl, fun _ _ => rfl⟩, rfl, rfl⟩
  | v :: vs, i, cur, w, es, hg, hl, h1 => by
    simp only [List.length_cons] at hl
    have hv := h1 v (by simp)
    have ha : (⟨g, off, none⟩ : Addr).add i = ⟨g, off + i, none⟩ := by simp [Addr.add]
    have hc : ∃ u, w.cell? ⟨g, off + i, none⟩ = some u := by
      refine ⟨cur[off + i]'(by omega), ?_⟩
      unfold World.cell?
      rw [hg]
      exact Array.getElem?_eq_getElem (show off + i < cur.size by omega)
    have hz : w.frozen? ⟨g, off + i, none⟩ = false := by unfold World.frozen?; rw [hg]; simp
    obtain ⟨u, hc⟩ := hc
    have S := setCell_put (j := off + i) hg v
    obtain ⟨w', evs, r1, r2, r3, r4, r5, r6, r7, r8⟩ := storeCells_go P g off e vs (i + 1) (cur.setIfInBounds (off + i) v) (w.setCell ⟨g, off + i, none⟩ v) (es.push ⟨.cell ⟨g, off + i, none⟩, true, false⟩) S.is (by simp; omega) (fun x hx => h1 x (by simp [hx]))
    have hcd : ∀ d, (w.at d).cell? ⟨g, off + i, none⟩ = some u := fun d => hc
    have hzd : ∀ d, (w.at d).frozen? ⟨g, off + i, none⟩ = false := fun d => hz
    have hsd : ∀ d, (w.at d).setCell ⟨g, off + i, none⟩ v = (w.setCell ⟨g, off + i, none⟩ v).at d := fun d => rfl
    refine ⟨w', #[⟨.cell ⟨g, off + i, none⟩, true, false⟩] ++ evs, ?_, ?_, fun d => ?_, fun d => ?_, fun ev hev => ?_, ⟨?_, r6.size.trans S.size, fun c hc => (r6.other c hc).trans (S.other c hc)⟩, r7, r8⟩
    · simp [storeCells, ha, run_store P w _ v _ hv, hc, hz, r1]
    · simp [storeCells, ha, run_store P w _ v _ hv, events_store P _ _ _ v _ hv, hc, hz]; exact r2
    · simp [storeCells, ha, run_store P _ _ v _ hv, hcd, hzd, hsd, r3]
    · simp [storeCells, ha, run_store P _ _ v _ hv, events_store P _ _ _ v _ hv, hcd, hzd, hsd]; exact r4 d
    · rcases Array.mem_append.1 hev with h | h
      · simp at h; exact ⟨off + i, by omega, by simp, h⟩
      · obtain ⟨j, j1, j2, j3⟩ := r5 ev h
        exact ⟨j, by omega, by simp only [List.length_cons]; omega, j3⟩
    · rw [putAt]; exact r6.is

/-- Cells are turned beside what seats lean on. -/
theorem okay_cells {g lo hi : Nat} {w' : World} {c c' : Array Value} {e : TypeId} {fz : Nat × Nat} {es : Array Event} (hs : σ.Sound w) (h0 : w.heap[g]? = some (.cells c e fz)) (S : SetB w w' g (.cells c' e fz)) (hk : ∀ j, ¬ (lo ≤ j ∧ j < hi) → c'[j]? = c[j]?)
    (hev : ∀ ev ∈ es, ∃ j, lo ≤ j ∧ j < hi ∧ ev = ⟨.cell ⟨g, j, none⟩, true, false⟩) (io : w'.os = w.os ∧ w'.output = w.output) (hf : σ.FreeC g lo hi) : OkayQ σ w w' es := by
  refine ⟨⟨fun i s hi => S.other _ (hf i s hi).1, fun i s hi p hp => ?_, fun ev he t ht hw i s hi p hp hl => ?_, io⟩, fun ev he => ?_⟩
  · by_cases hb : p.1.block = g
    · have hn := (hf i s hi).2 p hp
      unfold World.cell?
      rw [hb, S.is, h0]
      by_cases hsp : p.1.spot.isSome = true
      · simp only [hsp, if_true]
      · simp only [hsp]
        exact hk _ fun hj => hn ⟨hb, hj⟩
    · exact cell?_of_block (S.other _ hb)
  · obtain ⟨j, h1, h2, rfl⟩ := hev ev he
    simp only [MemAct.ofEvent, MemAct.touch?] at ht
    simp at ht
    subst ht
    simp at hl
    exact (hf i s hi).2 p hp ⟨by rw [← hl], by rw [← hl]; exact h1, by rw [← hl]; exact h2⟩
  · obtain ⟨j, _, _, rfl⟩ := hev ev he
    exact ⟨by simp, by simp⟩
end

section
variable {P : Program} {J : Judge P} {σ : Cfg} {w : World} {b : Frame} {a : Act} {k : List Item} {cs : List Frame} {ops : Array Oper} {i : Nat} {rest : List Nat} {o : Oper} {fn : FuncId}

theorem storeC_run {t e : TypeId} {x y : Operand} {g off : Nat} {cur vs : Array Value} {yv : Value} (hop : o.op = .store t x y) (hx : a.eval x = .pointer (some ⟨g, off, none⟩)) (hy : a.eval y = yv) (hcells : yv.cells = vs) (hb : w.heap[g]? = some (.cells cur e)) (hi : (P.info? t).map (·.size) = some vs.size)
    (hsz : off + vs.size ≤ cur.size) (h1 : vs.all (·.oneCell') = true) (hf : σ.FreeC g off (off + vs.size)) (hs : σ.Sound w) :
    ∃ w', SetB w w' g (.cells (putAt cur off vs.toList) e) ∧ ∀ d, (execOp a.eval o).run P (w.at d) = .ok .skip (w'.at d) ∧ OkayQ σ (w.at d) (w'.at d) (listed P fn a o (w.at d)) := by
  cases hq : P.info? t with
  | none => simp [hq] at hi
  | some ti =>
    have hsi : vs.size = ti.size := by simp [hq] at hi; omega
    obtain ⟨w', evs, r1, r2, r3, r4, r5, r6, r7, r8⟩ := storeCells_go P g off e vs.toList 0 cur w #[] hb (by simpa using hsz) (fun v hv => (Array.all_eq_true_iff_forall_mem.1 h1) v (by simpa using hv))
    refine ⟨w', r6, fun d => ⟨?_, ?_⟩⟩
    · unfold execOp
      simp [hop, hx, hy, Instr.storeAt, Instr.sureAddr, storeVar, Go.sizeOf, typeInfo, hq, hcells, hsi, r3 d]
    · refine okay_cells (w := w.at d) (at_sound hs d) hb ⟨r6.is, r6.size, r6.other⟩ (lo := off) (hi := off + vs.size) (fun j hj => putAt_other _ _ _ _ (by simpa using hj)) (fun ev hev => ?_) ⟨r7, r8⟩ hf
      have he : ev ∈ (execOp a.eval o).events P (w.at d) #[] := mem_listed hev
      have h0 : (execOp a.eval o).events P (w.at d) #[] = evs := by
        unfold execOp
        have := r4 d
        simp only [Array.empty_append] at this
        simp [hop, hx, hy, Instr.storeAt, Instr.sureAddr, storeVar, Go.sizeOf, typeInfo, hq, hcells, hsi, r3 d, this]
      rw [h0] at he
      obtain ⟨j, j1, j2, j3⟩ := r5 ev he
      exact ⟨j, by omega, by simpa using j2, j3⟩

/-- A STORE OF SOME CELLS OF A BLOCK. -/
theorem y_storeC {t e : TypeId} {x y : Operand} {g off : Nat} {cur vs : Array Value} {yv : Value} (ho : ops[i]? = some o) (hw : Region.wanted o (yielded ops a.tmps) = true) (hk : (b.kind == CallKind.early) = false) (hop : o.op = .store t x y) (hx : a.eval x = .pointer (some ⟨g, off, none⟩)) (hy : a.eval y = yv) (hcells : yv.cells = vs)
    (hb : w.heap[g]? = some (.cells cur e)) (hi : (P.info? t).map (·.size) = some vs.size) (hsz : off + vs.size ≤ cur.size) (h1 : vs.all (·.oneCell') = true) (hf : σ.FreeC g off (off + vs.size))
    (h : ∀ w', SetB w w' g (.cells (putAt cur off vs.toList) e) → J.Y σ (G (b.at (a.put o.dst undef) (.inRegion ops rest :: k)) cs) w') : J.Y σ (G (b.at a (.inRegion ops (i :: rest) :: k)) cs) w := by
  refine J.snd _ _ _ fun hs => ?_
  obtain ⟨w', S, hr⟩ := storeC_run (fn := b.fn) hop hx hy hcells hb hi hsz h1 hf hs
  refine y_op ho hw hk fun d _ K hK => ?_
  rw [(hr d).1]
  exact hK (.act (a.put o.dst undef)) w' d (hr d).2 (h w' S)
theorem opX_storeC {K : Act → Cfg → World → Prop} {t e : TypeId} {x y : Operand} {g off : Nat} {cur vs : Array Value} {yv : Value} (ho : ops[i]? = some o) (hw : Region.wanted o (yielded ops a.tmps) = true) (hop : o.op = .store t x y) (hx : a.eval x = .pointer (some ⟨g, off, none⟩)) (hy : a.eval y = yv) (hcells : yv.cells = vs)
    (hb : w.heap[g]? = some (.cells cur e)) (hi : (P.info? t).map (·.size) = some vs.size) (hsz : off + vs.size ≤ cur.size) (h1 : vs.all (·.oneCell') = true) (hf : σ.FreeC g off (off + vs.size))
    (h : ∀ w', SetB w w' g (.cells (putAt cur off vs.toList) e) → K (a.put o.dst undef) σ w') : OpX J fn ops i K a σ w := by
  unfold OpX
  simp only [ho, hw, if_true]
  intro d hs
  obtain ⟨w', S, hr⟩ := storeC_run (fn := fn) hop hx hy hcells hb hi hsz h1 hf hs
  rw [(hr d).1]
  exact ⟨w', d, rfl, (hr d).2, h w' S⟩
end
end Go.TX
