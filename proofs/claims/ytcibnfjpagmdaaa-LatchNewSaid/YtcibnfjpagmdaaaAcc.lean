/- The run behind an access. -/
import Derived.Test.YtcibnfjpagmdaaaMapRun
set_option linter.unusedSimpArgs false
set_option linter.unusedVariables false
set_option maxRecDepth 100000
namespace Go.Proofs.Ytcibnfjpagmdaaa
open Go.TX Go.Conc Go.RowKit Go.MapKept
variable {A : GA} {j : Nat} {w : World}

theorem CellIs.obj {b : Nat} {v : Int} (h : CellIs w b v) : w.heap[b]? = some (cellObj v) := h
theorem flatLog_snoc (l : List Entry) (e : Entry) : flatLog (l ++ [e]) = flatLog l ++ e.cells := by simp [flatLog]
theorem addCell_mem (cn : List Nat) (c : Nat) : c ∈ addCell cn c := by unfold addCell; split <;> simp_all
theorem addCell_of {cn : List Nat} {c x : Nat} (h : x ∈ addCell cn c) : x ∈ cn ∨ x = c := by
  unfold addCell at h
  split at h
  · exact .inl h
  · simpa using h
theorem addCell_nodup {cn : List Nat} (c : Nat) (h : cn.Nodup) : (addCell cn c).Nodup := by
  unfold addCell
  split
  · exact h
  · rename_i hc
    rw [List.nodup_append]
    exact ⟨h, by simp, fun x hx y hy => by simp at hy; subst hy; exact fun e => hc (e ▸ hx)⟩

/-- Blocks that hold different things are different. -/
theorem ne_of_obj {b c : Nat} {o o' : Obj} (h : w.heap[b]? = some o) (h' : w.heap[c]? = some o') (hne : o ≠ o') : b ≠ c := fun e => by subst e; rw [h] at h'; exact hne (Option.some.inj h')

theorem setB_put {b : Nat} {o : Obj} (hb : b < w.heap.size) : SetB w { w with heap := w.heap.setIfInBounds b o } b o := ⟨by simp [hb], by simp, fun c hc => by simp [Array.getElem?_setIfInBounds_ne (Ne.symm hc)]⟩
theorem addCell_in {cn : List Nat} {c : Nat} (h : c ∈ cn) : addCell cn c = cn := if_pos h
theorem addCell_out {cn : List Nat} {c : Nat} (h : c ∉ cn) : addCell cn c = cn ++ [c] := if_neg h
theorem idx_out {cn : List Nat} {c : Nat} (h : c ∉ cn) : (cn ++ [c]).idxOf c = cn.length := by
  rw [List.idxOf_append]; simp [h]

theorem GMem.accd {a : Acc} {wf : World} {logv' : Value} (M : GMem A (some j) w) (hj : j < A.p.nth) (hc : A.cells a.cell) (hlog : A.p.log.length < 65536) (size : w.heap.size ≤ wf.heap.size)
    (hcell : CellIs wf a.cell (a.now (A.p.cv a.cell))) (hmap : wf.heap[A.mb]? = some (.map (entriesOf (addCell A.p.cn a.cell)) (addCell A.p.cn a.cell).length))
    (hrun : wf.heap[A.R]? = some (.cells #[A.thv, .map (some A.mb), logv', A.wentv, A.readyv, A.fellv, .bool A.stops] 200))
    (hrow : wf.ownsRow 0 194 8 logv' (A.p.log.length + 1) (flatLog A.p.log ++ (a.done j ((addCell A.p.cn a.cell).idxOf a.cell) (A.p.cv a.cell)).cells))
    (hnew : ∀ b, logv'.ownBlock = some b → A.logv.ownBlock = some b ∨ w.heap.size ≤ b)
    (hab : ∃ xs, w.heap[A.ab j]? = some (.cells (#[.int .i64 (j : Int)] ++ xs) 194)) (hap : A.logv.ownBlock ≠ some (A.ab j))
    (other : ∀ b, b < w.heap.size → A.own b → b ≠ a.cell → b ≠ A.mb → b ≠ A.R → b ≠ A.ab j → A.logv.ownBlock ≠ some b → wf.heap[b]? = w.heap[b]?) :
    GMem { A with p := A.p.access j a, logv := logv', own := fun b => A.own b ∨ logv'.ownBlock = some b } (some j) wf := by
  obtain ⟨oR, omb, oc, o1, o2, o3, o4, o5, oj⟩ := M.owns
  obtain ⟨xs, hab⟩ := hab
  have lt : ∀ {b : Nat} {o : Obj}, w.heap[b]? = some o → b < w.heap.size := fun h => lt_of_get h
  have hC := (M.cell _ hc).obj
  have logT : ∀ {b : Nat}, A.logv.ownBlock = some b → ∃ cur, w.heap[b]? = some (.cells cur 194 (0, 0)) := fun h => (row_ty M.logs h).2.2
  -- a block that is neither of these stands
  have st : ∀ {b : Nat} {o : Obj}, A.own b → w.heap[b]? = some o → (∀ v, o ≠ cellObj v) → (∀ x y, o ≠ .map x y) → (∀ x y, o ≠ .cells x 200 y) → (∀ x y, o ≠ .cells x 194 y) → wf.heap[b]? = some o := fun {b o} ho hb n1 n2 n3 n4 => by
    refine (other b (lt hb) ho (ne_of_obj hb hC (n1 _)) (ne_of_obj hb M.mapo (n2 _ _)) (ne_of_obj hb M.runs (n3 _ _)) (ne_of_obj hb hab (n4 _ _)) fun hl => ?_).trans hb
    obtain ⟨cur, hcur⟩ := logT hl
    exact ne_of_obj hb hcur (n4 _ _) rfl
  have row : ∀ {e : TypeId} {s : Nat} {v : Value} {n : Nat} {ys : List Value}, OwnRow A.own v → w.ownsRow 0 e s v n ys → e ≠ 200 → e ≠ 194 → e ≠ 81 → wf.ownsRow 0 e s v n ys := fun {e s v n ys} ho hr h1 h2 h3 => row_later hr fun k hk => by
    obtain ⟨_, _, cur, hcur⟩ := row_ty hr hk
    exact (st (ho k hk) hcur (fun v h => h3 (Obj.cells.inj (h : Obj.cells cur e (0, 0) = .cells _ _ _)).2.1) (by simp) (fun x y h => h1 (Obj.cells.inj h).2.1) (fun x y h => h2 (Obj.cells.inj h).2.1)).trans hcur.symm
  refine { runs := hrun, mapo := hmap, thr := fun i hi => ?_, wkc := fun i hi => (M.wkc i hi).imp fun k hk => st (oj i hi).2.1 hk (by simp [cellObj]) (by simp) (by simp) (by simp), sdc := fun i hi => (M.sdc i hi).imp fun k hk => st (oj i hi).2.2.1 hk (by simp [cellObj]) (by simp) (by simp) (by simp), tcc := fun i hi => st (oj i hi).2.2.2.1 (M.tcc i hi) (by simp [cellObj]) (by simp) (by simp) (by simp), rcc := fun i hi => st (oj i hi).2.2.2.2.1 (M.rcc i hi) (by simp [cellObj]) (by simp) (by simp) (by simp), fcc := fun i hi => st (oj i hi).2.2.2.2.2.1 (M.fcc i hi) (by simp [cellObj]) (by simp) (by simp) (by simp), ths := row o1 M.ths (by decide) (by decide) (by decide), logs := ?_, went := row o3 M.went (by decide) (by decide) (by decide), ready := row o4 M.ready (by decide) (by decide) (by decide), fell := row o5 M.fell (by decide) (by decide) (by decide), cell := fun c hcc => ?_, cnc := (fun c hcc => ?_), cnd := addCell_nodup _ M.cnd, stand := fun i a' hi hr hs => ?_, born := M.born, small := ⟨?_, M.small.2⟩, apart := ⟨M.apart.1, M.apart.2.1, fun i a' hi hr hs hst hl => ?_⟩, chans := M.chans, owns := ?_ }
  · exact st (oj i hi).1 (M.thr i hi) (by simp [cellObj, thrObj]) (by simp [thrObj]) (by simp [thrObj]) (by simp [thrObj])
  · show wf.ownsRow 0 194 8 logv' (A.p.log ++ [_]).length (flatLog (A.p.log ++ [_]))
    rw [flatLog_snoc, List.length_append]; exact hrow
  · show CellIs wf c (setAt A.p.cv a.cell (a.now (A.p.cv a.cell)) c)
    by_cases e : c = a.cell
    · subst e; rw [setAt_same]; exact hcell
    · rw [setAt_ne _ _ e]
      have hcc' := (M.cell c hcc).obj
      refine (other c (lt hcc') (oc c hcc) e (ne_of_obj hcc' M.mapo (by simp [cellObj])) (ne_of_obj hcc' M.runs (by simp [cellObj, runObj])) (ne_of_obj hcc' hab (by simp [cellObj])) fun hl => ?_).trans hcc'
      obtain ⟨cur, hcur⟩ := logT hl
      exact ne_of_obj hcc' hcur (by simp [cellObj]) rfl
  · rcases addCell_of hcc with h | h
    · exact M.cnc c h
    · exact h ▸ hc
  · obtain ⟨h1, h2, h3, h4, h5⟩ := M.stand i a' hi hr hs
    refine ⟨h1, h2, h3, h4, fun hst => ?_⟩
    have h6 := h5 hst
    have hne : A.ab i ≠ A.ab j := ne_of_obj h6 hab (by
      intro e
      simp only [Obj.cells.injEq] at e
      have e0 := congrArg (fun x : Array Value => x[0]?) e.1
      have e1 : (a'.stand i).cells.toArray[0]? = some (.int .i64 (i : Int)) := rfl
      have e2 : (#[Value.int .i64 (j : Int)] ++ xs)[0]? = some (.int .i64 (j : Int)) := by rw [Array.getElem?_append_left (by simp)]; rfl
      have e3 : some (Value.int .i64 (i : Int)) = some (.int .i64 (j : Int)) := e1.symm.trans (e0.trans e2)
      have e4 : (i : Int) = j := by simpa using e3
      exact hr (by rw [show i = j by omega]))
    refine (other _ (lt h6) ((oj i hi).2.2.2.2.2.2 a' hr hs) (ne_of_obj h6 hC (by simp [cellObj])) (ne_of_obj h6 M.mapo (by simp)) (ne_of_obj h6 M.runs (by simp [runObj])) hne (fun hl => M.apart.2.2 i a' hi hr hs hst hl)).trans h6
  · show (A.p.log ++ [_]).length ≤ 65536
    simp; omega
  · rcases hnew _ hl with h | h
    · exact M.apart.2.2 i a' hi hr hs hst h
    · have h6 := lt ((M.stand i a' hi hr hs).2.2.2.2 hst)
      exact Nat.lt_irrefl _ (Nat.lt_of_lt_of_le h6 h)
  · refine ⟨.inl oR, .inl omb, fun c hcc => .inl (oc c hcc), fun b hb => .inl (o1 b hb), fun b hb => .inr hb, fun b hb => .inl (o3 b hb), fun b hb => .inl (o4 b hb), fun b hb => .inl (o5 b hb), fun i hi => ⟨.inl (oj i hi).1, .inl (oj i hi).2.1, .inl (oj i hi).2.2.1, .inl (oj i hi).2.2.2.1, .inl (oj i hi).2.2.2.2.1, .inl (oj i hi).2.2.2.2.2.1, fun a' hr hs => .inl ((oj i hi).2.2.2.2.2.2 a' hr hs)⟩⟩
end Go.Proofs.Ytcibnfjpagmdaaa
