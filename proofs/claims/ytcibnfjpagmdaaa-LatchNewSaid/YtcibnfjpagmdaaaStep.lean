/- Step, under a gate: a thread's access. -/
import Derived.Test.YtcibnfjpagmdaaaAcc
set_option linter.unusedSimpArgs false
set_option linter.unusedVariables false
set_option maxRecDepth 100000
set_option maxHeartbeats 4000000
namespace Go.Proofs.Ytcibnfjpagmdaaa
open Go.TX Go.Conc Go.RowKit Go.MapKept

section
variable {J : Judge Try.prog} {σ : Cfg} {w : World}
theorem num_set {b : Nat} {v : Int} (h : CellIs w b v) (u : Int) : SetB w (w.setCell ⟨b, 0, none⟩ (.int .i64 u)) b (cellObj u) := ⟨h.set u, setCell_size, fun c hc => setCell_heap_ne hc⟩
theorem num_store {b : Nat} {v : Int} (h : CellIs w b v) (hf : σ.Free (· = b)) (u : Int) : CallsX J 120 #[.pointer (some ⟨b, 0, none⟩), .int .i64 u] σ w fun r σ' w' => r = .tuple #[] ∧ σ' = σ ∧ SetB w w' b (cellObj u) :=
  (i64_store ⟨b, 0, none⟩ _ u h.v (h.frozen 0) hf).mono fun r σ' w' ⟨h1, h2, h3⟩ => ⟨h1, h2, h3 ▸ num_set h u⟩
theorem num_add {b : Nat} {v : Int} (h : CellIs w b v) (hf : σ.Free (· = b)) (u : Int) : CallsX J 153 #[.pointer (some ⟨b, 0, none⟩), .int .i64 u] σ w fun r σ' w' => r = .int .i64 (IntKind.i64.wrap (v + u)) ∧ σ' = σ ∧ SetB w w' b (cellObj (IntKind.i64.wrap (v + u))) :=
  (i64_add ⟨b, 0, none⟩ v u h.v (h.frozen 0) hf).mono fun r σ' w' ⟨h1, h2, h3⟩ => ⟨h1, h2, h3 ▸ num_set h _⟩
theorem num_cas {b : Nat} {v : Int} (h : CellIs w b v) (hf : σ.Free (· = b)) (old u : Int) : CallsX J 156 #[.pointer (some ⟨b, 0, none⟩), .int .i64 old, .int .i64 u] σ w fun r σ' w' => r = .bool (decide (v = old)) ∧ σ' = σ ∧ SetB w w' b (cellObj (if v = old then u else v)) :=
  (i64_cas ⟨b, 0, none⟩ v old u h.v (h.frozen 0) hf).mono fun r σ' w' ⟨h1, h2, h3⟩ => ⟨h1, h2, by
    by_cases e : v = old
    · simp only [e, if_true] at h3 ⊢; exact h3 ▸ num_set h _
    · simp only [e, if_false] at h3 ⊢; rw [h3]; exact ⟨h, rfl, fun _ _ => rfl⟩⟩

theorem live_on {tb R : Nat} (h0 : w.cell? ⟨tb, 0, none⟩ = some (.pointer (some ⟨R, 0, none⟩))) (h13 : w.cell? ⟨tb, 13, none⟩ = some (.bool false)) : CallsX J 139 #[.pointer (some ⟨tb, 0, none⟩)] σ w fun v σ' w' => v = .bool true ∧ σ' = σ ∧ w' = w := by
  refine callsX_body Try.func139 rfl fun c cs H HN => ?_
  simp only [Try.f139, Try.ntmps139, List.size_toArray, List.length_cons, List.length_nil, Nat.reduceAdd, Nat.reduceSub, Nat.zero_add, Array.replicate_succ, Array.replicate_zero, List.push_toArray, List.append_toArray, List.nil_append, List.cons_append, List.append_nil]
  repeat (first
    | refine y_go rfl ?_
    | (refine y_region ?_; simp only [rg, Nat.reduceAdd, List.range, List.range.loop])
    | (refine y_nw rfl (by rfl) rfl (by exact nx rfl) (fun dd hS K hK => ?_); go_simp; refine hK _ _ _ ?_; clear hK K hS dd; simp only [recOf]; try walk_nrm)
    | (refine y_unwanted rfl (by rfl) ?_; try walk_nrm) | refine y_condT rfl ?_ | refine y_condF rfl ?_
    | refine y_block ?_ | refine y_label ?_ | refine y_ret ?_ | refine y_end ?_)
  refine y_leave rfl rfl Try.func139 (resultsC_tmp rfl _) ?_
  exact H _ _ _ ⟨rfl, rfl, rfl⟩
end

/-- The run as it is when thread j stands at a; its record of it lies at bx. -/
def GA.stood (A : GA) (j : Nat) (a : Acc) (bx : Nat) : GA :=
  { A with p := A.p.put j (.stands a), pv := setAt A.pv j (some a.cell), pa := setAt A.pa j (a.stand j), ab := setAt A.ab j bx, own := fun b => A.own b ∨ b = bx }

theorem GMem.stood {A : GA} {j bx : Nat} {a : Acc} {w w0 w1 : World} (M : GMem A (some j) w) (hj : j < A.p.nth) (hst : A.stops = false) (B : Bigger w w0) (S : SetB w0 w1 (A.tb j) (.cells (thrCells A.R j (A.wk j) (A.sd j) (some a.cell) (a.stand j) false) 205))
    (hbx : w1.heap[bx]? = some (.cells (a.stand j).cells.toArray 194)) (hap : A.logv.ownBlock ≠ some bx) (hc : A.cells a.cell) (hf : a.Fit) : GMem (A.stood j a bx) none w1 := by
  obtain ⟨oR, omb, oc, o1, o2, o3, o4, o5, oj⟩ := M.owns
  have ht := M.thr j hj
  have st : ∀ {b : Nat} {o : Obj}, w.heap[b]? = some o → (∀ x y, o ≠ .cells x 205 y) → w1.heap[b]? = some o := fun {b o} hb n1 => (S.other b (ne_of_obj hb ht (n1 _ _))).trans (B.is hb)
  have row : ∀ {e : TypeId} {s : Nat} {v : Value} {n : Nat} {ys : List Value}, w.ownsRow 0 e s v n ys → e ≠ 205 → w1.ownsRow 0 e s v n ys := fun {e s v n ys} hr h1 => row_later hr fun k hk => by
    obtain ⟨_, _, cur, hcur⟩ := row_ty hr hk
    exact (st hcur (fun x y h => h1 (Obj.cells.inj h).2.1)).trans hcur.symm
  have hst' : ∀ i, i ≠ j → (A.stood j a bx).p.st i = A.p.st i := fun i hi => setAt_ne _ _ hi
  have hsj : (A.stood j a bx).p.st j = .stands a := setAt_same _ _ _
  refine { runs := st M.runs (by simp [runObj]), mapo := st M.mapo (by simp), thr := fun i hi => ?_, wkc := fun i hi => (M.wkc i hi).imp fun k hk => st hk (by simp), sdc := fun i hi => (M.sdc i hi).imp fun k hk => st hk (by simp), tcc := fun i hi => st (M.tcc i hi) (by simp), rcc := fun i hi => st (M.rcc i hi) (by simp), fcc := fun i hi => st (M.fcc i hi) (by simp), ths := row M.ths (by decide), logs := row M.logs (by decide), went := row M.went (by decide), ready := row M.ready (by decide), fell := row M.fell (by decide), cell := fun c hcc => st (M.cell c hcc) (by simp), cnc := M.cnc, cnd := M.cnd, stand := fun i a' hi _ hs => ?_, born := fun i => ?_, small := M.small, apart := ⟨M.apart.1, M.apart.2.1, fun i a' hi _ hs hst2 => ?_⟩, chans := M.chans, owns := ?_ }
  · by_cases e : i = j
    · subst e
      have : thrObj (A.stood i a bx) i = .cells (thrCells A.R i (A.wk i) (A.sd i) (some a.cell) (a.stand i) false) 205 := by
        unfold thrObj
        rw [hsj]
        simp [GA.stood]
      rw [this]; exact S.is
    · have : thrObj (A.stood j a bx) i = thrObj A i := by
        unfold thrObj
        rw [hst' i e]
        simp [GA.stood, setAt_ne _ _ e]
      rw [this]
      have hi' := M.thr i hi
      refine (S.other _ (ne_of_obj hi' ht fun h => ?_)).trans (B.is hi')
      have := congrArg (fun x : Array Value => x[1]?) (Obj.cells.inj (h : Obj.cells _ _ _ = .cells _ _ _)).1
      simp [thrCells] at this
      exact e (by omega)
  · by_cases e : i = j
    · subst e
      rw [hsj] at hs
      obtain rfl := Phase.stands.inj hs
      exact ⟨setAt_same _ _ _, setAt_same _ _ _, hc, hf, fun _ => by show w1.heap[setAt A.ab i bx i]? = _; rw [setAt_same]; exact hbx⟩
    · rw [hst' i e] at hs
      obtain ⟨h1, h2, h3, h4, h5⟩ := M.stand i a' hi (fun h => e (Option.some.inj h).symm) hs
      exact ⟨(setAt_ne _ _ e).trans h1, (setAt_ne _ _ e).trans h2, h3, h4, fun hst2 => by show w1.heap[setAt A.ab j bx i]? = _; rw [setAt_ne _ _ e]; exact st (h5 hst2) (by simp)⟩
  · by_cases e : i = j
    · subst e
      rw [hsj]
      exact ⟨fun _ => .inl (by simp), fun _ => hj⟩
    · rw [hst' i e]
      refine (M.born i).trans ⟨?_, ?_⟩
      · rintro (h | h)
        · exact .inl h
        · exact absurd (Option.some.inj h).symm e
      · rintro (h | h)
        · exact .inl h
        · cases h
  · by_cases e : i = j
    · subst e; show A.logv.ownBlock ≠ some (setAt A.ab i bx i); rw [setAt_same]; exact hap
    · rw [hst' i e] at hs
      show A.logv.ownBlock ≠ some (setAt A.ab j bx i); rw [setAt_ne _ _ e]
      exact M.apart.2.2 i a' hi (fun h => e (Option.some.inj h).symm) hs hst2
  · refine ⟨.inl oR, .inl omb, fun c hcc => .inl (oc c hcc), fun b hb => .inl (o1 b hb), fun b hb => .inl (o2 b hb), fun b hb => .inl (o3 b hb), fun b hb => .inl (o4 b hb), fun b hb => .inl (o5 b hb), fun i hi => ⟨.inl (oj i hi).1, .inl (oj i hi).2.1, .inl (oj i hi).2.2.1, .inl (oj i hi).2.2.2.1, .inl (oj i hi).2.2.2.2.1, .inl (oj i hi).2.2.2.2.2.1, fun a' _ hs => ?_⟩⟩
    by_cases e : i = j
    · subst e; exact .inr (setAt_same _ _ _)
    · rw [hst' i e] at hs
      exact .inl (by show A.own (setAt A.ab j bx i); rw [setAt_ne _ _ e]; exact (oj i hi).2.2.2.2.2.2 a' (fun h => e (Option.some.inj h).symm) hs)

section
variable {Fin : Machine → Trace → Prop} {C : Client} {A : GA} {j : Nat} {kap : Nat → C.K} {gs : Nat → Goroutine} {gm : Goroutine} {os : Os} {out : Array (Nat × ByteArray)} {w : World} {σ : Cfg}

def GA.logged (A : GA) (j : Nat) (a : Acc) (logv' : Value) : GA := { A with p := A.p.access j a, logv := logv', own := fun b => A.own b ∨ logv'.ownBlock = some b }

theorem BackFor.logged {Pr : C.K → Acc → LayJ → Goroutine → Prop} {a : Acc} {logv' : Value} {wf : World} (B : BackFor Fin C Pr (A.acc j a) j kap gs gm os out w) (size : w.heap.size ≤ wf.heap.size) (hnew : ∀ b, logv'.ownBlock = some b → A.logv.ownBlock = some b ∨ w.heap.size ≤ b)
    (h : ∀ b, b < w.heap.size → A.own b → ¬ GW A j b → wf.heap[b]? = w.heap[b]?) : BackFor Fin C Pr (A.logged j a logv') j kap gs gm os out wf := by
  intro A' κ' s' gj' w' M H I P F
  refine B A' κ' s' gj' w' M (H.trans' rfl rfl rfl rfl rfl rfl rfl rfl rfl rfl rfl (fun _ _ => rfl) rfl rfl rfl rfl rfl rfl fun b hb => .inl hb) I P ⟨Nat.le_trans size F.size, fun b hb ho hg => ?_⟩
  refine (F.old b (by omega) (.inl ho) fun hg' => hg ?_).trans (h b hb ho hg)
  rcases hg' with h | h | h | h | h | h | h | h
  · exact .inl h
  · exact .inr (.inl h)
  · exact .inr (.inr (.inl h))
  · exact .inr (.inr (.inr (.inl h)))
  · exact .inr (.inr (.inr (.inr (.inl h))))
  · exact .inr (.inr (.inr (.inr (.inr (.inl h)))))
  · rcases hnew b h with h | h
    · exact .inr (.inr (.inr (.inr (.inr (.inr (.inl h))))))
    · omega
  · exact .inr (.inr (.inr (.inr (.inr (.inr (.inr h))))))

/-- What Step answers, and what is held then. -/
def StepR (Fin : Machine → Trace → Prop) (C : Client) (m j : Nat) (A : GA) (a : Acc) (κ : C.K) (v : Value) (σ' : Cfg) (w' : World) : Prop :=
  ∃ (p0 : Pub) (kap' : Nat → C.K) (s' : C.S) (A1 : GA) (m' : Nat), m' < m ∧ kap' j = κ ∧ p0.st j = .stands a ∧ (a.op = 6 → p0.cv a.cell ≠ a.arg) ∧ C.I kap' s' p0 A1.own w' ∧ A1.p = p0.access j a ∧ A1.home j = A.home j ∧ Mine Fin C m' j A1 kap' σ' w' ∧
    v = .tuple #[.int .i64 (p0.cv a.cell), .int .i64 (a.now (p0.cv a.cell)), .bool (a.ok (p0.cv a.cell))]
end

/-- What the appending of an entry reads. -/
abbrev SLog (tb R ab : Nat) (logv x0 x1 x2 x3 x4 x5 x6 x7 : Value) (w : World) : Prop := w.cell? ⟨tb, 0, none⟩ = some (.pointer (some ⟨R, 0, none⟩)) ∧ w.cell? ⟨R, 2, none⟩ = some logv ∧ Row8 w ab x0 x1 x2 x3 x4 x5 x6 x7
theorem SLog.old {tb R ab : Nat} {logv x0 x1 x2 x3 x4 x5 x6 x7 : Value} {w w' : World} (h : SLog tb R ab logv x0 x1 x2 x3 x4 x5 x6 x7 w) (h1 : w'.heap[tb]? = w.heap[tb]?) (h2 : w'.heap[R]? = w.heap[R]?) (h3 : w'.heap[ab]? = w.heap[ab]?) : SLog tb R ab logv x0 x1 x2 x3 x4 x5 x6 x7 w' := by
  obtain ⟨a, b, c0, c1, c2, c3, c4, c5, c6, c7⟩ := h
  exact ⟨(cell?_of_block h1).trans a, (cell?_of_block h2).trans b, (cell?_of_block h3).trans c0, (cell?_of_block h3).trans c1, (cell?_of_block h3).trans c2, (cell?_of_block h3).trans c3, (cell?_of_block h3).trans c4, (cell?_of_block h3).trans c5, (cell?_of_block h3).trans c6, (cell?_of_block h3).trans c7⟩
theorem SLog.big {tb R ab : Nat} {logv x0 x1 x2 x3 x4 x5 x6 x7 : Value} {w w' : World} (h : SLog tb R ab logv x0 x1 x2 x3 x4 x5 x6 x7 w) (B : Bigger w w') : SLog tb R ab logv x0 x1 x2 x3 x4 x5 x6 x7 w' :=
  h.old (B.old _ (lt_of_cell h.1)) (B.old _ (lt_of_cell h.2.1)) (B.old _ (lt_of_cell h.2.2.1))
end Go.Proofs.Ytcibnfjpagmdaaa
