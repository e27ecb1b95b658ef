/- Making a choice; Select and Try, one goroutine alone. -/
import Derived.Test.YtcibnfjpagmdaaaLook
set_option linter.unusedSimpArgs false
set_option linter.unusedVariables false
set_option maxRecDepth 100000
set_option maxHeartbeats 4000000
namespace Go.Proofs.Ytcibnfjpagmdaaa
open Go.TX Go.Conc Go.RowKit Go.MapKept
variable {J : Judge Try.prog} {σ : Cfg} {w : World}

theorem choice_new_nil : CallsX J 44 #[.pointer none] σ w fun r σ' w' => r = .pointer none ∧ σ' = σ ∧ w' = w := by
  refine callsX_body Try.func44 rfl fun c cs H HN => ?_
  simp only [Try.f44, Try.ntmps44, List.size_toArray, List.length_cons, List.length_nil, Nat.reduceAdd, Nat.reduceSub, Nat.zero_add, Array.replicate_succ, Array.replicate_zero, List.push_toArray, List.append_toArray, List.nil_append, List.cons_append, List.append_nil]
  repeat (first
    | refine y_seq ?_
    | (refine y_region ?_; simp only [List.size_toArray, List.length_cons, List.length_nil, Nat.reduceAdd, Nat.zero_add, List.range, List.range.loop])
    | refine y_regionEnd ?_
    | (refine y_nw rfl (by rfl) rfl (by first | exact nx_of rfl | exact nx_nil rfl rfl | exact nx_int rfl rfl rfl) (fun dd hS K hK => ?_); go_simp; refine hK _ _ _ ?_; clear hK K hS dd; simp only [recOf]; try walk_nrm)
    | (refine y_unwanted rfl (by rfl) ?_; try walk_nrm)
    | (refine y_cond true rfl ?_; simp only [if_true])
    | (refine y_cond false rfl ?_; simp only [Bool.false_eq_true, if_false])
    | refine y_skip ?_ | refine y_block ?_ | refine y_inBlock ?_ | refine y_label ?_ | refine y_exit rfl ?_ | refine y_ret ?_ | refine y_end ?_ | refine y_scope ?_ | refine y_inScope ?_)
  refine y_leave rfl rfl Try.func44 (resultsC_tmp rfl _) ?_
  exact H _ _ _ ⟨rfl, rfl, rfl⟩

/-- A choice in memory. -/
structure ChIs (w : World) (c bell tk : Nat) (k : Int) : Prop where
  obj : w.heap[c]? = some (.cells #[.pointer (some ⟨bell, 0, none⟩), .pointer (some ⟨tk, 0, none⟩)] 99)
  tick : CellIs w tk k
theorem ChIs.c0 {c bell tk : Nat} {k : Int} (h : ChIs w c bell tk k) : w.cell? ⟨c, 0, none⟩ = some (.pointer (some ⟨bell, 0, none⟩)) := by unfold World.cell?; rw [h.obj]; rfl
theorem ChIs.c1 {c bell tk : Nat} {k : Int} (h : ChIs w c bell tk k) : w.cell? ⟨c, 1, none⟩ = some (.pointer (some ⟨tk, 0, none⟩)) := by unfold World.cell?; rw [h.obj]; rfl

theorem choice_new (bell : Nat) : CallsX J 44 #[.pointer (some ⟨bell, 0, none⟩)] σ w fun r σ' w' => r = .pointer (some ⟨w.heap.size + 1, 0, none⟩) ∧ σ' = σ ∧ ChIs w' (w.heap.size + 1) bell w.heap.size 0 ∧ Grew w w' ∧ w'.heap.size = w.heap.size + 2 := by
  refine callsX_body Try.func44 rfl fun c cs H HN => ?_
  simp only [Try.f44, Try.ntmps44, List.size_toArray, List.length_cons, List.length_nil, Nat.reduceAdd, Nat.reduceSub, Nat.zero_add, Array.replicate_succ, Array.replicate_zero, List.push_toArray, List.append_toArray, List.nil_append, List.cons_append, List.append_nil]
  repeat (first
    | refine y_seq ?_
    | (refine y_region ?_; simp only [List.size_toArray, List.length_cons, List.length_nil, Nat.reduceAdd, Nat.zero_add, List.range, List.range.loop])
    | refine y_regionEnd ?_
    | (refine y_nw rfl (by rfl) rfl (by first | exact nx_of rfl | exact nx_nil rfl rfl | exact nx_int rfl rfl rfl) (fun dd hS K hK => ?_); go_simp; refine hK _ _ _ ?_; clear hK K hS dd; simp only [recOf]; try walk_nrm)
    | (refine y_unwanted rfl (by rfl) ?_; try walk_nrm)
    | (refine y_cond true rfl ?_; simp only [if_true])
    | (refine y_cond false rfl ?_; simp only [Bool.false_eq_true, if_false])
    | refine y_skip ?_ | refine y_block ?_ | refine y_inBlock ?_ | refine y_label ?_ | refine y_exit rfl ?_ | refine y_ret ?_ | refine y_end ?_ | refine y_scope ?_ | refine y_inScope ?_)
  refine y_callR rfl (by rfl) rfl rfl Try.func26 (by kernel_rfl) (by kernel_rfl) (new1 0) (by simp only [List.map_toArray, List.map_cons, List.map_nil] <;> rfl) ?_
  rintro _ σ'' w1 ⟨rfl, e2, N1⟩
  rw [e2]
  clear e2 σ''
  walk_nrm
  have z1 := N1.size
  replace N1 := Keep.mk N1
  repeat (first
    | refine y_seq ?_
    | (refine y_region ?_; simp only [List.size_toArray, List.length_cons, List.length_nil, Nat.reduceAdd, Nat.zero_add, List.range, List.range.loop])
    | refine y_regionEnd ?_
    | (refine y_nw rfl (by rfl) rfl (by first | exact nx_of rfl | exact nx_nil rfl rfl | exact nx_int rfl rfl rfl) (fun dd hS K hK => ?_); go_simp; refine hK _ _ _ ?_; clear hK K hS dd; simp only [recOf]; try walk_nrm)
    | (refine y_unwanted rfl (by rfl) ?_; try walk_nrm)
    | (refine y_cond true rfl ?_; simp only [if_true])
    | (refine y_cond false rfl ?_; simp only [Bool.false_eq_true, if_false])
    | refine y_skip ?_ | refine y_block ?_ | refine y_inBlock ?_ | refine y_label ?_ | refine y_exit rfl ?_ | refine y_ret ?_ | refine y_end ?_ | refine y_scope ?_ | refine y_inScope ?_)
  refine y_leave rfl rfl Try.func44 (resultsC_tmp rfl _) ?_
  replace N1 := Keep.out N1
  have N2 := newO w1 (.cells #[.pointer (some ⟨bell, 0, none⟩), .pointer (some ⟨w.heap.size, 0, none⟩)] 99)
  refine H _ _ _ ⟨by simp [z1], rfl, ⟨by rw [← z1]; exact N2.is, N1.is.later (N2.old _ (by omega))⟩, ((Grew.refl w).trans ⟨by omega, N1.old⟩).newO N2, by rw [N2.size]; omega⟩

/-- Refused. -/
theorem select_refused {cv lv t : Value} {e : Int} (hr : CallsX J 142 #[cv, lv] σ w fun r σ' w' => r = .int .i64 e ∧ σ' = σ ∧ Grew w w') (he : ¬ e = 0) :
    CallsX J 46 #[cv, t, lv] σ w fun r σ' w' => r = .tuple #[.int .i64 (-1), .int .i64 0, .bool false, .int .i64 e] ∧ σ' = σ ∧ Grew w w' := by
  have he' : (e != 0) = true := by simpa using he
  refine callsX_body Try.func46 rfl fun c cs H HN => ?_
  simp only [Try.f46, Try.ntmps46, List.size_toArray, List.length_cons, List.length_nil, Nat.reduceAdd, Nat.reduceSub, Nat.zero_add, Array.replicate_succ, Array.replicate_zero, List.push_toArray, List.append_toArray, List.nil_append, List.cons_append, List.append_nil]
  replace hr := Keep.mk hr
  repeat (first
    | refine y_seq ?_
    | (refine y_region ?_; simp only [List.size_toArray, List.length_cons, List.length_nil, Nat.reduceAdd, Nat.zero_add, List.range, List.range.loop])
    | refine y_regionEnd ?_
    | (refine y_nw rfl (by rfl) rfl (by first | exact nx_of rfl | exact nx_nil rfl rfl | exact nx_int rfl rfl rfl) (fun dd hS K hK => ?_); go_simp; refine hK _ _ _ ?_; clear hK K hS dd; simp only [recOf]; try walk_nrm)
    | (refine y_unwanted rfl (by rfl) ?_; try walk_nrm)
    | (refine y_cond true rfl ?_; simp only [if_true])
    | (refine y_cond false rfl ?_; simp only [Bool.false_eq_true, if_false])
    | refine y_skip ?_ | refine y_block ?_ | refine y_inBlock ?_ | refine y_label ?_ | refine y_exit rfl ?_ | refine y_ret ?_ | refine y_end ?_ | refine y_scope ?_ | refine y_inScope ?_)
  refine y_callR rfl (by rfl) rfl rfl Try.func142 (by kernel_rfl) (by kernel_rfl) (hr.out) (by simp only [List.map_toArray, List.map_cons, List.map_nil] <;> rfl) ?_
  rintro _ σ'' w1 ⟨rfl, e2, g1⟩
  rw [e2]
  clear e2 σ''
  walk_nrm
  repeat (first
    | refine y_seq ?_
    | (refine y_region ?_; simp only [List.size_toArray, List.length_cons, List.length_nil, Nat.reduceAdd, Nat.zero_add, List.range, List.range.loop])
    | refine y_regionEnd ?_
    | (refine y_nw rfl (by rfl) rfl (by first | exact nx_of rfl | exact nx_nil rfl rfl | exact nx_int rfl rfl rfl) (fun dd hS K hK => ?_); go_simp; refine hK _ _ _ ?_; clear hK K hS dd; simp only [recOf]; try walk_nrm)
    | (refine y_unwanted rfl (by rfl) ?_; try walk_nrm)
    | (refine y_cond true rfl ?_; simp only [if_true])
    | (refine y_cond false rfl ?_; simp only [Bool.false_eq_true, if_false])
    | refine y_skip ?_ | refine y_block ?_ | refine y_inBlock ?_ | refine y_label ?_ | refine y_exit rfl ?_ | refine y_ret ?_ | refine y_end ?_ | refine y_scope ?_ | refine y_inScope ?_)
  refine y_leave rfl rfl Try.func46 (resultsC_tmp4 rfl _) ?_
  exact H _ _ _ ⟨rfl, rfl, g1⟩
theorem try_refused {cv lv t : Value} {e : Int} (hr : CallsX J 142 #[cv, lv] σ w fun r σ' w' => r = .int .i64 e ∧ σ' = σ ∧ Grew w w') (he : ¬ e = 0) :
    CallsX J 47 #[cv, t, lv] σ w fun r σ' w' => r = .tuple #[.int .i64 (-1), .int .i64 0, .bool false, .int .i64 e] ∧ σ' = σ ∧ Grew w w' := by
  have he' : (e != 0) = true := by simpa using he
  refine callsX_body Try.func47 rfl fun c cs H HN => ?_
  simp only [Try.f47, Try.ntmps47, List.size_toArray, List.length_cons, List.length_nil, Nat.reduceAdd, Nat.reduceSub, Nat.zero_add, Array.replicate_succ, Array.replicate_zero, List.push_toArray, List.append_toArray, List.nil_append, List.cons_append, List.append_nil]
  replace hr := Keep.mk hr
  repeat (first
    | refine y_seq ?_
    | (refine y_region ?_; simp only [List.size_toArray, List.length_cons, List.length_nil, Nat.reduceAdd, Nat.zero_add, List.range, List.range.loop])
    | refine y_regionEnd ?_
    | (refine y_nw rfl (by rfl) rfl (by first | exact nx_of rfl | exact nx_nil rfl rfl | exact nx_int rfl rfl rfl) (fun dd hS K hK => ?_); go_simp; refine hK _ _ _ ?_; clear hK K hS dd; simp only [recOf]; try walk_nrm)
    | (refine y_unwanted rfl (by rfl) ?_; try walk_nrm)
    | (refine y_cond true rfl ?_; simp only [if_true])
    | (refine y_cond false rfl ?_; simp only [Bool.false_eq_true, if_false])
    | refine y_skip ?_ | refine y_block ?_ | refine y_inBlock ?_ | refine y_label ?_ | refine y_exit rfl ?_ | refine y_ret ?_ | refine y_end ?_ | refine y_scope ?_ | refine y_inScope ?_)
  refine y_callR rfl (by rfl) rfl rfl Try.func142 (by kernel_rfl) (by kernel_rfl) (hr.out) (by simp only [List.map_toArray, List.map_cons, List.map_nil] <;> rfl) ?_
  rintro _ σ'' w1 ⟨rfl, e2, g1⟩
  rw [e2]
  clear e2 σ''
  walk_nrm
  repeat (first
    | refine y_seq ?_
    | (refine y_region ?_; simp only [List.size_toArray, List.length_cons, List.length_nil, Nat.reduceAdd, Nat.zero_add, List.range, List.range.loop])
    | refine y_regionEnd ?_
    | (refine y_nw rfl (by rfl) rfl (by first | exact nx_of rfl | exact nx_nil rfl rfl | exact nx_int rfl rfl rfl) (fun dd hS K hK => ?_); go_simp; refine hK _ _ _ ?_; clear hK K hS dd; simp only [recOf]; try walk_nrm)
    | (refine y_unwanted rfl (by rfl) ?_; try walk_nrm)
    | (refine y_cond true rfl ?_; simp only [if_true])
    | (refine y_cond false rfl ?_; simp only [Bool.false_eq_true, if_false])
    | refine y_skip ?_ | refine y_block ?_ | refine y_inBlock ?_ | refine y_label ?_ | refine y_exit rfl ?_ | refine y_ret ?_ | refine y_end ?_ | refine y_scope ?_ | refine y_inScope ?_)
  refine y_leave rfl rfl Try.func47 (resultsC_tmp4 rfl _) ?_
  exact H _ _ _ ⟨rfl, rfl, g1⟩

theorem ChIs.grew {w' : World} {c bell tk : Nat} {k : Int} (h : ChIs w c bell tk k) (g : Grew w w') : ChIs w' c bell tk k := ⟨(g.old _ (lt_of_get h.obj)).trans h.obj, h.tick.later (g.old _ h.tick.lt)⟩

/-- What Select and Try do once they are not refused: the ticket, then the look. -/
structure Ready (w : World) (l cap n : Nat) (S : Nat → Shape) (cs0 : List (Value × Bool × Int)) (o : Nat → Nat) (q : Nat → List Int) : Prop where
  pos : 0 < n
  max : n < 2 ^ 40
  cases : Cases w l cap cs0
  len : cs0.length = n
  each : ∀ x, x < n → ∃ va, cs0[x]? = some (.pointer (some ⟨(S x).p, 0, none⟩), false, va)
  small : ∀ x, x < n → o x + (q x).length < 2 ^ 60

theorem Cases.upd {w' : World} {l cap n : Nat} {cs : List (Value × Bool × Int)} {b : Nat} {u v : Int} (h : Cases w l cap cs) (U : Upd w w' b v) (hb : CellIs w b u) (hn : 0 < n) (hN : cs.length = n) (hp : ∀ c, cs[0]? = some c → ∃ x, c.1 = .pointer x) : Cases w' l cap cs := by
  have hne : l ≠ b := fun e => by
    subst e
    obtain ⟨c, hc⟩ : ∃ c, cs[0]? = some c := ⟨_, List.getElem?_eq_getElem (by omega)⟩
    obtain ⟨x, hx⟩ := hp c hc
    have := h.pipe 0 c hc
    simp only [Nat.zero_mul] at this
    rw [hb.v, hx] at this; cases this
  exact ⟨fun x c e => (U.cell hne).trans (h.pipe x c e), fun x c e => (U.cell hne).trans (h.send x c e), fun x c e => (U.cell hne).trans (h.val x c e)⟩
theorem Fam.tick {w' : World} {bell : Nat} {d : Int} {n : Nat} {S : Nat → Shape} {o : Nat → Nat} {q : Nat → List Int} (F : Fam w bell d n S o q) {b : Nat} {u v : Int} (U : Upd w w' b v) (hb : CellIs w b u) (h1 : b ≠ bell) (h2 : ∀ x, x < n → ¬ (S x).cell b) : Fam w' bell d n S o q := by
  refine ⟨U.later h1.symm F.isBell, fun x hx => ⟨?_, (F.pq x hx).2⟩, F.apart⟩
  obtain ⟨hP, _⟩ := F.pq x hx
  have hn := hP.pow.le
  obtain ⟨a1, a2⟩ := not_p hP.laid (by omega) hb
  exact hP.later (U.other _ a1.symm) (U.other _ a2.symm) fun c hc => U.other _ fun e => h2 x hx (e ▸ hc)
theorem ChIs.ticked {w' : World} {ch bell tk : Nat} {k v : Int} (h : ChIs w ch bell tk k) (U : Upd w w' tk v) : ChIs w' ch bell tk v := by
  refine ⟨(U.other _ fun e => ?_).trans h.obj, U.is⟩
  subst e; have := h.tick.symm.trans h.obj; simp at this

theorem select_recv {ch bell tk l cap n k : Nat} {d : Int} {S : Nat → Shape} {o : Nat → Nat} {q : Nat → List Int} {t : Value} {cs0 : List (Value × Bool × Int)} (hr : CallsX J 142 #[.pointer (some ⟨ch, 0, none⟩), .slice (some ⟨l, 0, none⟩) n cap] σ w fun r σ' w' => r = .int .i64 0 ∧ σ' = σ ∧ Grew w w')
    (hoff : ∀ w', Off w' t) (R : Ready w l cap n S cs0 o q) (C : ChIs w ch bell tk (k : Int)) (F : Fam w bell d n S o q) (htk : tk ≠ bell ∧ ∀ x, x < n → ¬ (S x).cell tk) (hk : k < 2 ^ 39) (hex : ∃ x, x < n ∧ q x ≠ []) (hf : ∀ b, σ.Free (· = b)) :
    CallsX J 46 #[.pointer (some ⟨ch, 0, none⟩), t, .slice (some ⟨l, 0, none⟩) n cap] σ w fun r σ' w' => σ' = σ ∧ w.heap.size ≤ w'.heap.size ∧ (∀ b, b < w.heap.size → (∀ x, x < n → ¬ (S x).cell b) → b ≠ bell → b ≠ tk → w'.heap[b]? = w.heap[b]?) ∧
      ChIs w' ch bell tk ((k + 1 : Nat) : Int) ∧ ∃ j v qs, j < n ∧ q ((k % n + j) % n) = v :: qs ∧ (∀ i, i < j → q ((k % n + i) % n) = []) ∧ r = .tuple #[.int .i64 (((k % n + j) % n : Nat) : Int), .int .i64 v, .bool true, .int .i64 0] ∧
        Fam w' bell (IntKind.i64.wrap (d + 1)) n S (upd1 o ((k % n + j) % n) (o ((k % n + j) % n) + 1)) (upd1 q ((k % n + j) % n) qs) := by
  obtain ⟨hn, hmax, hl, hN, hcs, hsm⟩ := R
  have c0 := C.c0
  have c1 := C.c1
  refine callsX_body Try.func46 rfl fun c cs H HN => ?_
  simp only [Try.f46, Try.ntmps46, List.size_toArray, List.length_cons, List.length_nil, Nat.reduceAdd, Nat.reduceSub, Nat.zero_add, Array.replicate_succ, Array.replicate_zero, List.push_toArray, List.append_toArray, List.nil_append, List.cons_append, List.append_nil]
  clear HN
  replace hr := Keep.mk hr
  replace H := Keep.mk H
  replace hl := Keep.mk hl
  replace hcs := Keep.mk hcs
  replace hsm := Keep.mk hsm
  replace F := Keep.mk F
  replace htk := Keep.mk htk
  replace C := Keep.mk C
  replace hex := Keep.mk hex
  replace c0 := Keep.mk c0
  replace c1 := Keep.mk c1
  repeat (first
    | refine y_seq ?_
    | (refine y_region ?_; simp only [List.size_toArray, List.length_cons, List.length_nil, Nat.reduceAdd, Nat.zero_add, List.range, List.range.loop])
    | refine y_regionEnd ?_
    | (refine y_nw rfl (by rfl) rfl (by first | exact nx_of rfl | exact nx_nil rfl rfl | exact nx_int rfl rfl rfl) (fun dd hS K hK => ?_); go_simp; refine hK _ _ _ ?_; clear hK K hS dd; simp only [recOf]; try walk_nrm)
    | (refine y_unwanted rfl (by rfl) ?_; try walk_nrm)
    | (refine y_cond true rfl ?_; simp only [if_true])
    | (refine y_cond false rfl ?_; simp only [Bool.false_eq_true, if_false])
    | refine y_skip ?_ | refine y_block ?_ | refine y_inBlock ?_ | refine y_label ?_ | refine y_exit rfl ?_ | refine y_ret ?_ | refine y_end ?_ | refine y_scope ?_ | refine y_inScope ?_)
  refine y_callR rfl (by rfl) rfl rfl Try.func142 (by kernel_rfl) (by kernel_rfl) (hr.out) (by simp only [List.map_toArray, List.map_cons, List.map_nil] <;> rfl) ?_
  rintro _ σ'' w1 ⟨rfl, e2, g1⟩
  rw [e2]
  clear e2 σ''
  walk_nrm
  have C1 := C.out.grew g1
  have c0 := C1.c0
  have c1 := C1.c1
  have F1 : Fam w1 bell d n S o q := F.out.grew g1.old
  replace F1 := Keep.mk F1
  replace g1 := Keep.mk g1
  replace C1 := Keep.mk C1
  repeat (first
    | refine y_seq ?_
    | (refine y_region ?_; simp only [List.size_toArray, List.length_cons, List.length_nil, Nat.reduceAdd, Nat.zero_add, List.range, List.range.loop])
    | refine y_regionEnd ?_
    | (refine y_nw rfl (by rfl) rfl (by first | exact nx_of rfl | exact nx_nil rfl rfl | exact nx_int rfl rfl rfl) (fun dd hS K hK => ?_); go_simp; refine hK _ _ _ ?_; clear hK K hS dd; simp only [recOf]; try walk_nrm)
    | (refine y_unwanted rfl (by rfl) ?_; try walk_nrm)
    | (refine y_cond true rfl ?_; simp only [if_true])
    | (refine y_cond false rfl ?_; simp only [Bool.false_eq_true, if_false])
    | refine y_skip ?_ | refine y_block ?_ | refine y_inBlock ?_ | refine y_label ?_ | refine y_exit rfl ?_ | refine y_ret ?_ | refine y_end ?_ | refine y_scope ?_ | refine y_inScope ?_)
  refine y_callR rfl (by rfl) rfl rfl Try.func61 (by kernel_rfl) (by kernel_rfl) (add_upd C1.out.tick (hoff _) (hf _)) (by simp only [List.map_toArray, List.map_cons, List.map_nil] <;> rfl) ?_
  rintro _ σ'' w2 ⟨rfl, e2, U2⟩
  rw [e2]
  clear e2 σ''
  walk_nrm
  replace C1 := Keep.out C1
  replace F1 := Keep.out F1
  replace hl := Keep.out hl
  replace g1 := Keep.out g1
  replace htk := Keep.out htk
  have hl1 := hl.grew g1
  have hl2 := hl1.upd U2 C1.tick hn hN fun c hc => by obtain ⟨va, hva⟩ := hcs.out 0 hn; rw [hva] at hc; cases hc; exact ⟨_, rfl⟩
  have F2 := F1.tick U2 C1.tick htk.1 htk.2
  have C2 := C1.ticked U2
  have c0 := C2.c0
  have c1 := C2.c1
  have eb := F2.isBell
  rw [wrap_small (by omega) (by omega)] at U2 C2 ⊢
  clear c0 c1
  have c0 := C2.c0
  have c1 := C2.c1
  have hback : IntKind.i64.wrap ((k : Int) + 1 - 1) = (k : Int) := by rw [wrap_small (by omega) (by omega)]; omega
  replace hl1 := Keep.mk hl1
  replace hl2 := Keep.mk hl2
  replace F1 := Keep.mk F1
  replace F2 := Keep.mk F2
  replace C1 := Keep.mk C1
  replace C2 := Keep.mk C2
  replace htk := Keep.mk htk
  replace U2 := Keep.mk U2
  replace g1 := Keep.mk g1
  replace hl := Keep.mk hl
  replace hback := Keep.mk hback
  repeat (first
    | refine y_seq ?_
    | (refine y_region ?_; simp only [List.size_toArray, List.length_cons, List.length_nil, Nat.reduceAdd, Nat.zero_add, List.range, List.range.loop])
    | refine y_regionEnd ?_
    | (refine y_nw rfl (by rfl) rfl (by first | exact nx_of rfl | exact nx_nil rfl rfl | exact nx_int rfl rfl rfl) (fun dd hS K hK => ?_); go_simp; refine hK _ _ _ ?_; clear hK K hS dd; simp only [recOf]; try walk_nrm)
    | (refine y_unwanted rfl (by rfl) ?_; try walk_nrm)
    | (refine y_cond true rfl ?_; simp only [if_true])
    | (refine y_cond false rfl ?_; simp only [Bool.false_eq_true, if_false])
    | refine y_skip ?_ | refine y_block ?_ | refine y_inBlock ?_ | refine y_label ?_ | refine y_exit rfl ?_ | refine y_ret ?_ | refine y_end ?_ | refine y_scope ?_ | refine y_inScope ?_)
  refine y_loop ?_
  repeat (first
    | refine y_seq ?_
    | (refine y_region ?_; simp only [List.size_toArray, List.length_cons, List.length_nil, Nat.reduceAdd, Nat.zero_add, List.range, List.range.loop])
    | refine y_regionEnd ?_
    | (refine y_nw rfl (by rfl) rfl (by first | exact nx_of rfl | exact nx_nil rfl rfl | exact nx_int rfl rfl rfl) (fun dd hS K hK => ?_); go_simp; refine hK _ _ _ ?_; clear hK K hS dd; simp only [recOf]; try walk_nrm)
    | (refine y_unwanted rfl (by rfl) ?_; try walk_nrm)
    | (refine y_cond true rfl ?_; simp only [if_true])
    | (refine y_cond false rfl ?_; simp only [Bool.false_eq_true, if_false])
    | refine y_skip ?_ | refine y_block ?_ | refine y_inBlock ?_ | refine y_label ?_ | refine y_exit rfl ?_ | refine y_ret ?_ | refine y_end ?_ | refine y_scope ?_ | refine y_inScope ?_)
  refine y_callR rfl (by rfl) rfl rfl Try.func41 (by kernel_rfl) (by kernel_rfl) (cell_load eb (hoff _)) (by simp only [List.map_toArray, List.map_cons, List.map_nil] <;> rfl) ?_
  rintro _ σ'' w'' ⟨rfl, e2, e3⟩
  rw [e2, e3]
  clear e2 e3 w'' σ''
  walk_nrm
  repeat (first
    | refine y_seq ?_
    | (refine y_region ?_; simp only [List.size_toArray, List.length_cons, List.length_nil, Nat.reduceAdd, Nat.zero_add, List.range, List.range.loop])
    | refine y_regionEnd ?_
    | (refine y_nw rfl (by rfl) rfl (by first | exact nx_of rfl | exact nx_nil rfl rfl | exact nx_int rfl rfl rfl) (fun dd hS K hK => ?_); go_simp; refine hK _ _ _ ?_; clear hK K hS dd; simp only [recOf]; try walk_nrm)
    | (refine y_unwanted rfl (by rfl) ?_; try walk_nrm)
    | (refine y_cond true rfl ?_; simp only [if_true])
    | (refine y_cond false rfl ?_; simp only [Bool.false_eq_true, if_false])
    | refine y_skip ?_ | refine y_block ?_ | refine y_inBlock ?_ | refine y_label ?_ | refine y_exit rfl ?_ | refine y_ret ?_ | refine y_end ?_ | refine y_scope ?_ | refine y_inScope ?_)
  refine y_callR rfl (by rfl) rfl rfl Try.func143 (by kernel_rfl) (by kernel_rfl) (look_recv l cap n ((k : Int) + 1) k (k % n) t hoff hn hmax hback.out rfl F2.out cs0 hl2.out hN hcs.out hsm.out hf) (by simp only [List.map_toArray, List.map_cons, List.map_nil] <;> rfl) ?_
  rintro r σ'' w3 ⟨e2, hz3, hold3, hres⟩
  rw [e2]
  clear e2 σ''
  obtain ⟨j, v, qs, hj, hq, hno, rfl, F3⟩ : ∃ j v qs, j < n ∧ q ((k % n + j) % n) = v :: qs ∧ (∀ i, i < j → q ((k % n + i) % n) = []) ∧ r = .tuple #[.agg #[.int .i64 (((k % n + j) % n : Nat) : Int), .int .i64 v, .bool true, .int .i64 0], .bool true] ∧
      Fam w3 bell (IntKind.i64.wrap (d + 1)) n S (upd1 o ((k % n + j) % n) (o ((k % n + j) % n) + 1)) (upd1 q ((k % n + j) % n) qs) := by
    rcases hres with h | ⟨h, _⟩
    · exact h
    · obtain ⟨x, hx, hne⟩ := hex.out
      exact absurd (h x hx) hne
  clear hres
  have C3 : ChIs w3 ch bell tk ((k : Int) + 1) := by
    have hb : ∀ b, (∃ x, x < n ∧ (S x).cell b) → ∃ u, CellIs w2 b u := fun b ⟨x, hx, h⟩ => (F2.out.pq x hx).1.cellIs h
    have hne : ∀ b u, CellIs w2 b u → ch ≠ b := fun b u h e => by subst e; have := h.symm.trans C2.out.obj; simp at this
    exact ⟨(hold3 ch (lt_of_get C2.out.obj) (fun x hx h => by obtain ⟨u, hu⟩ := hb _ ⟨x, hx, h⟩; exact hne _ _ hu rfl) (hne _ _ F2.out.isBell)).trans C2.out.obj,
      C2.out.tick.later (hold3 tk C2.out.tick.lt (htk.out.2) htk.out.1)⟩
  obtain ⟨y, hy⟩ : ∃ y, y = (k % n + j) % n := ⟨_, rfl⟩
  rw [← hy]
  replace hy := Keep.mk hy
  replace hz3 := Keep.mk hz3
  replace hold3 := Keep.mk hold3
  replace hno := Keep.mk hno
  replace hq := Keep.mk hq
  replace F3 := Keep.mk F3
  replace C3 := Keep.mk C3
  replace hj := Keep.mk hj
  clear c0 c1 eb
  walk_nrm
  (refine y_nw rfl (by rfl) rfl (by first | exact nx_of rfl | exact nx_nil rfl rfl | exact nx_int rfl rfl rfl) (fun dd hS K hK => ?_); go_simp; refine hK _ _ _ ?_; clear hK K hS dd; simp only [recOf]; try walk_nrm)
  (refine y_nw rfl (by rfl) rfl (by first | exact nx_of rfl | exact nx_nil rfl rfl | exact nx_int rfl rfl rfl) (fun dd hS K hK => ?_); go_simp; refine hK _ _ _ ?_; clear hK K hS dd; simp only [recOf]; try walk_nrm)
  (refine y_nw rfl (by rfl) rfl (by first | exact nx_of rfl | exact nx_nil rfl rfl | exact nx_int rfl rfl rfl) (fun dd hS K hK => ?_); go_simp; refine hK _ _ _ ?_; clear hK K hS dd; simp only [recOf]; try walk_nrm)
  (refine y_nw rfl (by rfl) rfl (by first | exact nx_of rfl | exact nx_nil rfl rfl | exact nx_int rfl rfl rfl) (fun dd hS K hK => ?_); go_simp; refine hK _ _ _ ?_; clear hK K hS dd; simp only [recOf]; try walk_nrm)
  have N4 := newO w3 (.cells #[.int .i64 0, .int .i64 0, .bool false, .int .i64 0] 224)
  generalize w3.alloc (.cells #[.int .i64 0, .int .i64 0, .bool false, .int .i64 0] 224) = w4 at N4 ⊢
  refine y_storeRow rfl (by rfl) rfl rfl rfl rfl N4.is (by kernel_rfl) rfl (by simp [Value.oneCell']) (hf _) fun w5 S5 => ?_
  walk_nrm
  replace N4 := newO_set N4 S5
  clear S5 w4
  have a0 : w5.cell? ⟨w3.heap.size, 0, none⟩ = some (.int .i64 y) := by unfold World.cell?; rw [N4.is]; rfl
  have a1 : w5.cell? ⟨w3.heap.size, 1, none⟩ = some (.int .i64 v) := by unfold World.cell?; rw [N4.is]; rfl
  have a2 : w5.cell? ⟨w3.heap.size, 2, none⟩ = some (.bool true) := by unfold World.cell?; rw [N4.is]; rfl
  have a3 : w5.cell? ⟨w3.heap.size, 3, none⟩ = some (.int .i64 0) := by unfold World.cell?; rw [N4.is]; rfl
  replace N4 := Keep.mk N4
  repeat (first
    | refine y_seq ?_
    | (refine y_region ?_; simp only [List.size_toArray, List.length_cons, List.length_nil, Nat.reduceAdd, Nat.zero_add, List.range, List.range.loop])
    | refine y_regionEnd ?_
    | (refine y_nw rfl (by rfl) rfl (by first | exact nx_of rfl | exact nx_nil rfl rfl | exact nx_int rfl rfl rfl) (fun dd hS K hK => ?_); go_simp; refine hK _ _ _ ?_; clear hK K hS dd; simp only [recOf]; try walk_nrm)
    | (refine y_unwanted rfl (by rfl) ?_; try walk_nrm)
    | (refine y_cond true rfl ?_; simp only [if_true])
    | (refine y_cond false rfl ?_; simp only [Bool.false_eq_true, if_false])
    | refine y_skip ?_ | refine y_block ?_ | refine y_inBlock ?_ | refine y_label ?_ | refine y_exit rfl ?_ | refine y_ret ?_ | refine y_end ?_ | refine y_scope ?_ | refine y_inScope ?_)
  refine y_drawnQ (fun _ w' => w'.cell? ⟨w3.heap.size, 0, none⟩ = some (.int .i64 y) ∧ w'.cell? ⟨w3.heap.size, 1, none⟩ = some (.int .i64 v) ∧ w'.cell? ⟨w3.heap.size, 2, none⟩ = some (.bool true) ∧ w'.cell? ⟨w3.heap.size, 3, none⟩ = some (.int .i64 0)) (fun _ => false) (by kernel_rfl) rfl ?_
  simp only [List.size_toArray, List.length_cons, List.length_nil, Nat.reduceAdd, Nat.reduceSub, Nat.zero_add, Array.replicate_succ, Array.replicate_zero, List.push_toArray, List.append_toArray, List.nil_append, List.cons_append, List.append_nil]
  first | (apply anyX_takeW (i := 0) rfl; (focus rfl); (focus (first | exact nx_of rfl | exact nx_nil rfl rfl | exact nx_int rfl rfl rfl)); (focus (rintro σ' w' ⟨s0, s1, s2, s3⟩ d K hK; go_simp; exact hK)); (focus kernel_rfl); (focus kernel_rfl); (focus kernel_rfl); (focus kernel_rfl); (focus (exact ⟨a0, a1, a2, a3⟩))) | (refine anyX_takeU (i := 0) rfl rfl (by kernel_rfl) (by kernel_rfl) (by kernel_rfl) (by kernel_rfl) (by exact ⟨a0, a1, a2, a3⟩) ?_)
  try walk_nrm
  first | (apply anyX_takeW (i := 1) rfl; (focus rfl); (focus (first | exact nx_of rfl | exact nx_nil rfl rfl | exact nx_int rfl rfl rfl)); (focus (rintro σ' w' ⟨s0, s1, s2, s3⟩ d K hK; go_simp; exact hK)); (focus kernel_rfl); (focus kernel_rfl); (focus kernel_rfl); (focus kernel_rfl); (focus (exact ⟨a0, a1, a2, a3⟩))) | (refine anyX_takeU (i := 1) rfl rfl (by kernel_rfl) (by kernel_rfl) (by kernel_rfl) (by kernel_rfl) (by exact ⟨a0, a1, a2, a3⟩) ?_)
  try walk_nrm
  first | (apply anyX_takeW (i := 2) rfl; (focus rfl); (focus (first | exact nx_of rfl | exact nx_nil rfl rfl | exact nx_int rfl rfl rfl)); (focus (rintro σ' w' ⟨s0, s1, s2, s3⟩ d K hK; go_simp; exact hK)); (focus kernel_rfl); (focus kernel_rfl); (focus kernel_rfl); (focus kernel_rfl); (focus (exact ⟨a0, a1, a2, a3⟩))) | (refine anyX_takeU (i := 2) rfl rfl (by kernel_rfl) (by kernel_rfl) (by kernel_rfl) (by kernel_rfl) (by exact ⟨a0, a1, a2, a3⟩) ?_)
  try walk_nrm
  first | (apply anyX_takeW (i := 3) rfl; (focus rfl); (focus (first | exact nx_of rfl | exact nx_nil rfl rfl | exact nx_int rfl rfl rfl)); (focus (rintro σ' w' ⟨s0, s1, s2, s3⟩ d K hK; go_simp; exact hK)); (focus kernel_rfl); (focus kernel_rfl); (focus kernel_rfl); (focus kernel_rfl); (focus (exact ⟨a0, a1, a2, a3⟩))) | (refine anyX_takeU (i := 3) rfl rfl (by kernel_rfl) (by kernel_rfl) (by kernel_rfl) (by kernel_rfl) (by exact ⟨a0, a1, a2, a3⟩) ?_)
  try walk_nrm
  first | (apply anyX_takeW (i := 4) rfl; (focus rfl); (focus (first | exact nx_of rfl | exact nx_nil rfl rfl | exact nx_int rfl rfl rfl)); (focus (rintro σ' w' ⟨s0, s1, s2, s3⟩ d K hK; go_simp; exact hK)); (focus kernel_rfl); (focus kernel_rfl); (focus kernel_rfl); (focus kernel_rfl); (focus (exact ⟨a0, a1, a2, a3⟩))) | (refine anyX_takeU (i := 4) rfl rfl (by kernel_rfl) (by kernel_rfl) (by kernel_rfl) (by kernel_rfl) (by exact ⟨a0, a1, a2, a3⟩) ?_)
  try walk_nrm
  first | (apply anyX_takeW (i := 5) rfl; (focus rfl); (focus (first | exact nx_of rfl | exact nx_nil rfl rfl | exact nx_int rfl rfl rfl)); (focus (rintro σ' w' ⟨s0, s1, s2, s3⟩ d K hK; go_simp; exact hK)); (focus kernel_rfl); (focus kernel_rfl); (focus kernel_rfl); (focus kernel_rfl); (focus (exact ⟨a0, a1, a2, a3⟩))) | (refine anyX_takeU (i := 5) rfl rfl (by kernel_rfl) (by kernel_rfl) (by kernel_rfl) (by kernel_rfl) (by exact ⟨a0, a1, a2, a3⟩) ?_)
  try walk_nrm
  first | (apply anyX_takeW (i := 6) rfl; (focus rfl); (focus (first | exact nx_of rfl | exact nx_nil rfl rfl | exact nx_int rfl rfl rfl)); (focus (rintro σ' w' ⟨s0, s1, s2, s3⟩ d K hK; go_simp; exact hK)); (focus kernel_rfl); (focus kernel_rfl); (focus kernel_rfl); (focus kernel_rfl); (focus (exact ⟨a0, a1, a2, a3⟩))) | (refine anyX_takeU (i := 6) rfl rfl (by kernel_rfl) (by kernel_rfl) (by kernel_rfl) (by kernel_rfl) (by exact ⟨a0, a1, a2, a3⟩) ?_)
  try walk_nrm
  first | (apply anyX_takeW (i := 7) rfl; (focus rfl); (focus (first | exact nx_of rfl | exact nx_nil rfl rfl | exact nx_int rfl rfl rfl)); (focus (rintro σ' w' ⟨s0, s1, s2, s3⟩ d K hK; go_simp; exact hK)); (focus kernel_rfl); (focus kernel_rfl); (focus kernel_rfl); (focus kernel_rfl); (focus (exact ⟨a0, a1, a2, a3⟩))) | (refine anyX_takeU (i := 7) rfl rfl (by kernel_rfl) (by kernel_rfl) (by kernel_rfl) (by kernel_rfl) (by exact ⟨a0, a1, a2, a3⟩) ?_)
  try walk_nrm
  first | (apply anyX_takeW (i := 8) rfl; (focus rfl); (focus (first | exact nx_of rfl | exact nx_nil rfl rfl | exact nx_int rfl rfl rfl)); (focus (rintro σ' w' ⟨s0, s1, s2, s3⟩ d K hK; go_simp; exact hK)); (focus kernel_rfl); (focus kernel_rfl); (focus kernel_rfl); (focus kernel_rfl); (focus (exact ⟨a0, a1, a2, a3⟩))) | (refine anyX_takeU (i := 8) rfl rfl (by kernel_rfl) (by kernel_rfl) (by kernel_rfl) (by kernel_rfl) (by exact ⟨a0, a1, a2, a3⟩) ?_)
  try walk_nrm
  first | (apply anyX_takeW (i := 9) rfl; (focus rfl); (focus (first | exact nx_of rfl | exact nx_nil rfl rfl | exact nx_int rfl rfl rfl)); (focus (rintro σ' w' ⟨s0, s1, s2, s3⟩ d K hK; go_simp; exact hK)); (focus kernel_rfl); (focus kernel_rfl); (focus kernel_rfl); (focus kernel_rfl); (focus (exact ⟨a0, a1, a2, a3⟩))) | (refine anyX_takeU (i := 9) rfl rfl (by kernel_rfl) (by kernel_rfl) (by kernel_rfl) (by kernel_rfl) (by exact ⟨a0, a1, a2, a3⟩) ?_)
  try walk_nrm
  first | (apply anyX_takeW (i := 10) rfl; (focus rfl); (focus (first | exact nx_of rfl | exact nx_nil rfl rfl | exact nx_int rfl rfl rfl)); (focus (rintro σ' w' ⟨s0, s1, s2, s3⟩ d K hK; go_simp; exact hK)); (focus kernel_rfl); (focus kernel_rfl); (focus kernel_rfl); (focus kernel_rfl); (focus (exact ⟨a0, a1, a2, a3⟩))) | (refine anyX_takeU (i := 10) rfl rfl (by kernel_rfl) (by kernel_rfl) (by kernel_rfl) (by kernel_rfl) (by exact ⟨a0, a1, a2, a3⟩) ?_)
  try walk_nrm
  first | (apply anyX_takeW (i := 11) rfl; (focus rfl); (focus (first | exact nx_of rfl | exact nx_nil rfl rfl | exact nx_int rfl rfl rfl)); (focus (rintro σ' w' ⟨s0, s1, s2, s3⟩ d K hK; go_simp; exact hK)); (focus kernel_rfl); (focus kernel_rfl); (focus kernel_rfl); (focus kernel_rfl); (focus (exact ⟨a0, a1, a2, a3⟩))) | (refine anyX_takeU (i := 11) rfl rfl (by kernel_rfl) (by kernel_rfl) (by kernel_rfl) (by kernel_rfl) (by exact ⟨a0, a1, a2, a3⟩) ?_)
  try walk_nrm
  refine anyX_end (by kernel_rfl) ?_
  repeat (first
    | refine y_seq ?_
    | (refine y_region ?_; simp only [List.size_toArray, List.length_cons, List.length_nil, Nat.reduceAdd, Nat.zero_add, List.range, List.range.loop])
    | refine y_regionEnd ?_
    | (refine y_nw rfl (by rfl) rfl (by first | exact nx_of rfl | exact nx_nil rfl rfl | exact nx_int rfl rfl rfl) (fun dd hS K hK => ?_); go_simp; refine hK _ _ _ ?_; clear hK K hS dd; simp only [recOf]; try walk_nrm)
    | (refine y_unwanted rfl (by rfl) ?_; try walk_nrm)
    | (refine y_cond true rfl ?_; simp only [if_true])
    | (refine y_cond false rfl ?_; simp only [Bool.false_eq_true, if_false])
    | refine y_skip ?_ | refine y_block ?_ | refine y_inBlock ?_ | refine y_label ?_ | refine y_exit rfl ?_ | refine y_ret ?_ | refine y_end ?_ | refine y_scope ?_ | refine y_inScope ?_)
  refine y_leave rfl rfl Try.func46 (resultsC_tmp4 rfl _) ?_
  replace hy := Keep.out hy
  replace hz3 := Keep.out hz3
  replace hold3 := Keep.out hold3
  replace hno := Keep.out hno
  replace hq := Keep.out hq
  replace F3 := Keep.out F3
  replace C3 := Keep.out C3
  replace hj := Keep.out hj
  replace N4 := Keep.out N4
  replace H := Keep.out H
  replace U2 := Keep.out U2
  replace g1 := Keep.out g1
  have z1 := g1.size
  have z2 := U2.size
  have z4 := N4.size
  subst hy
  refine H _ _ _ ⟨rfl, by omega, fun b hb h1 h2 h3 => ?_, ?_, j, v, qs, hj, hq, hno, rfl, F3.grew N4.old⟩
  · rw [N4.old b (by omega), hold3 b (by omega) h1 h2, U2.other b h3, g1.old b hb]
  · rw [show ((k + 1 : Nat) : Int) = (k : Int) + 1 by omega]
    exact C3.grew ⟨by omega, N4.old⟩

theorem try_recv {ch bell tk l cap n k : Nat} {d : Int} {S : Nat → Shape} {o : Nat → Nat} {q : Nat → List Int} {t : Value} {cs0 : List (Value × Bool × Int)} (hr : CallsX J 142 #[.pointer (some ⟨ch, 0, none⟩), .slice (some ⟨l, 0, none⟩) n cap] σ w fun r σ' w' => r = .int .i64 0 ∧ σ' = σ ∧ Grew w w')
    (hoff : ∀ w', Off w' t) (R : Ready w l cap n S cs0 o q) (C : ChIs w ch bell tk (k : Int)) (F : Fam w bell d n S o q) (htk : tk ≠ bell ∧ ∀ x, x < n → ¬ (S x).cell tk) (hk : k < 2 ^ 39) (hf : ∀ b, σ.Free (· = b)) :
    CallsX J 47 #[.pointer (some ⟨ch, 0, none⟩), t, .slice (some ⟨l, 0, none⟩) n cap] σ w fun r σ' w' => σ' = σ ∧ w.heap.size ≤ w'.heap.size ∧ (∀ b, b < w.heap.size → (∀ x, x < n → ¬ (S x).cell b) → b ≠ bell → b ≠ tk → w'.heap[b]? = w.heap[b]?) ∧
      ChIs w' ch bell tk ((k + 1 : Nat) : Int) ∧ ((∃ j v qs, j < n ∧ q ((k % n + j) % n) = v :: qs ∧ (∀ i, i < j → q ((k % n + i) % n) = []) ∧ r = .tuple #[.int .i64 (((k % n + j) % n : Nat) : Int), .int .i64 v, .bool true, .int .i64 0] ∧
        Fam w' bell (IntKind.i64.wrap (d + 1)) n S (upd1 o ((k % n + j) % n) (o ((k % n + j) % n) + 1)) (upd1 q ((k % n + j) % n) qs)) ∨
        ((∀ x, x < n → q x = []) ∧ r = .tuple #[.int .i64 (-1), .int .i64 0, .bool false, .int .i64 0] ∧ Fam w' bell d n S o q)) := by
  obtain ⟨hn, hmax, hl, hN, hcs, hsm⟩ := R
  have c0 := C.c0
  have c1 := C.c1
  refine callsX_body Try.func47 rfl fun c cs H HN => ?_
  simp only [Try.f47, Try.ntmps47, List.size_toArray, List.length_cons, List.length_nil, Nat.reduceAdd, Nat.reduceSub, Nat.zero_add, Array.replicate_succ, Array.replicate_zero, List.push_toArray, List.append_toArray, List.nil_append, List.cons_append, List.append_nil]
  clear HN
  replace hr := Keep.mk hr
  replace H := Keep.mk H
  replace hl := Keep.mk hl
  replace hcs := Keep.mk hcs
  replace hsm := Keep.mk hsm
  replace F := Keep.mk F
  replace htk := Keep.mk htk
  replace C := Keep.mk C
  replace c0 := Keep.mk c0
  replace c1 := Keep.mk c1
  repeat (first
    | refine y_seq ?_
    | (refine y_region ?_; simp only [List.size_toArray, List.length_cons, List.length_nil, Nat.reduceAdd, Nat.zero_add, List.range, List.range.loop])
    | refine y_regionEnd ?_
    | (refine y_nw rfl (by rfl) rfl (by first | exact nx_of rfl | exact nx_nil rfl rfl | exact nx_int rfl rfl rfl) (fun dd hS K hK => ?_); go_simp; refine hK _ _ _ ?_; clear hK K hS dd; simp only [recOf]; try walk_nrm)
    | (refine y_unwanted rfl (by rfl) ?_; try walk_nrm)
    | (refine y_cond true rfl ?_; simp only [if_true])
    | (refine y_cond false rfl ?_; simp only [Bool.false_eq_true, if_false])
    | refine y_skip ?_ | refine y_block ?_ | refine y_inBlock ?_ | refine y_label ?_ | refine y_exit rfl ?_ | refine y_ret ?_ | refine y_end ?_ | refine y_scope ?_ | refine y_inScope ?_)
  refine y_callR rfl (by rfl) rfl rfl Try.func142 (by kernel_rfl) (by kernel_rfl) (hr.out) (by simp only [List.map_toArray, List.map_cons, List.map_nil] <;> rfl) ?_
  rintro _ σ'' w1 ⟨rfl, e2, g1⟩
  rw [e2]
  clear e2 σ''
  walk_nrm
  have C1 := C.out.grew g1
  have c0 := C1.c0
  have c1 := C1.c1
  have F1 : Fam w1 bell d n S o q := F.out.grew g1.old
  replace F1 := Keep.mk F1
  replace g1 := Keep.mk g1
  replace C1 := Keep.mk C1
  repeat (first
    | refine y_seq ?_
    | (refine y_region ?_; simp only [List.size_toArray, List.length_cons, List.length_nil, Nat.reduceAdd, Nat.zero_add, List.range, List.range.loop])
    | refine y_regionEnd ?_
    | (refine y_nw rfl (by rfl) rfl (by first | exact nx_of rfl | exact nx_nil rfl rfl | exact nx_int rfl rfl rfl) (fun dd hS K hK => ?_); go_simp; refine hK _ _ _ ?_; clear hK K hS dd; simp only [recOf]; try walk_nrm)
    | (refine y_unwanted rfl (by rfl) ?_; try walk_nrm)
    | (refine y_cond true rfl ?_; simp only [if_true])
    | (refine y_cond false rfl ?_; simp only [Bool.false_eq_true, if_false])
    | refine y_skip ?_ | refine y_block ?_ | refine y_inBlock ?_ | refine y_label ?_ | refine y_exit rfl ?_ | refine y_ret ?_ | refine y_end ?_ | refine y_scope ?_ | refine y_inScope ?_)
  refine y_callR rfl (by rfl) rfl rfl Try.func61 (by kernel_rfl) (by kernel_rfl) (add_upd C1.out.tick (hoff _) (hf _)) (by simp only [List.map_toArray, List.map_cons, List.map_nil] <;> rfl) ?_
  rintro _ σ'' w2 ⟨rfl, e2, U2⟩
  rw [e2]
  clear e2 σ''
  walk_nrm
  replace C1 := Keep.out C1
  replace F1 := Keep.out F1
  replace hl := Keep.out hl
  replace g1 := Keep.out g1
  replace htk := Keep.out htk
  have hl1 := hl.grew g1
  have hl2 := hl1.upd U2 C1.tick hn hN fun c hc => by obtain ⟨va, hva⟩ := hcs.out 0 hn; rw [hva] at hc; cases hc; exact ⟨_, rfl⟩
  have F2 := F1.tick U2 C1.tick htk.1 htk.2
  have C2 := C1.ticked U2
  have c0 := C2.c0
  have c1 := C2.c1
  have eb := F2.isBell
  rw [wrap_small (by omega) (by omega)] at U2 C2 ⊢
  clear c0 c1
  have c0 := C2.c0
  have c1 := C2.c1
  have hback : IntKind.i64.wrap ((k : Int) + 1 - 1) = (k : Int) := by rw [wrap_small (by omega) (by omega)]; omega
  replace hl1 := Keep.mk hl1
  replace hl2 := Keep.mk hl2
  replace F1 := Keep.mk F1
  replace F2 := Keep.mk F2
  replace C1 := Keep.mk C1
  replace C2 := Keep.mk C2
  replace htk := Keep.mk htk
  replace U2 := Keep.mk U2
  replace g1 := Keep.mk g1
  replace hl := Keep.mk hl
  replace hback := Keep.mk hback
  repeat (first
    | refine y_seq ?_
    | (refine y_region ?_; simp only [List.size_toArray, List.length_cons, List.length_nil, Nat.reduceAdd, Nat.zero_add, List.range, List.range.loop])
    | refine y_regionEnd ?_
    | (refine y_nw rfl (by rfl) rfl (by first | exact nx_of rfl | exact nx_nil rfl rfl | exact nx_int rfl rfl rfl) (fun dd hS K hK => ?_); go_simp; refine hK _ _ _ ?_; clear hK K hS dd; simp only [recOf]; try walk_nrm)
    | (refine y_unwanted rfl (by rfl) ?_; try walk_nrm)
    | (refine y_cond true rfl ?_; simp only [if_true])
    | (refine y_cond false rfl ?_; simp only [Bool.false_eq_true, if_false])
    | refine y_skip ?_ | refine y_block ?_ | refine y_inBlock ?_ | refine y_label ?_ | refine y_exit rfl ?_ | refine y_ret ?_ | refine y_end ?_ | refine y_scope ?_ | refine y_inScope ?_)
  refine y_callR rfl (by rfl) rfl rfl Try.func143 (by kernel_rfl) (by kernel_rfl) (look_recv l cap n ((k : Int) + 1) k (k % n) t hoff hn hmax hback.out rfl F2.out cs0 hl2.out hN hcs.out hsm.out hf) (by simp only [List.map_toArray, List.map_cons, List.map_nil] <;> rfl) ?_
  rintro r σ'' w3 ⟨e2, hz3, hold3, hres⟩
  rw [e2]
  clear e2 σ''
  have hch : ChIs w3 ch bell tk ((k : Int) + 1) := by
    have hb : ∀ b, (∃ x, x < n ∧ (S x).cell b) → ∃ u, CellIs w2 b u := fun b ⟨x, hx, h⟩ => (F2.out.pq x hx).1.cellIs h
    have hne : ∀ b u, CellIs w2 b u → ch ≠ b := fun b u h e => by subst e; have := h.symm.trans C2.out.obj; simp at this
    exact ⟨(hold3 ch (lt_of_get C2.out.obj) (fun x hx h => by obtain ⟨u, hu⟩ := hb _ ⟨x, hx, h⟩; exact hne _ _ hu rfl) (hne _ _ F2.out.isBell)).trans C2.out.obj,
      C2.out.tick.later (hold3 tk C2.out.tick.lt (htk.out.2) htk.out.1)⟩
  clear c0 c1 eb
  obtain ⟨x0, x1, x2, rfl, hr2⟩ : ∃ (x0 x1 : Int) (x2 : Bool), r = .tuple #[.agg #[.int .i64 x0, .int .i64 x1, .bool x2, .int .i64 0], .bool x2] ∧
      ((∃ j v qs, j < n ∧ q ((k % n + j) % n) = v :: qs ∧ (∀ i, i < j → q ((k % n + i) % n) = []) ∧ x0 = (((k % n + j) % n : Nat) : Int) ∧ x1 = v ∧ x2 = true ∧ Fam w3 bell (IntKind.i64.wrap (d + 1)) n S (upd1 o ((k % n + j) % n) (o ((k % n + j) % n) + 1)) (upd1 q ((k % n + j) % n) qs)) ∨
       ((∀ x, x < n → q x = []) ∧ x0 = -1 ∧ x1 = 0 ∧ x2 = false ∧ Fam w3 bell d n S o q)) := by
    rcases hres with ⟨j, v, qs, h1, h2, h3, rfl, h5⟩ | ⟨h1, rfl, h3⟩
    · exact ⟨_, _, _, rfl, .inl ⟨j, v, qs, h1, h2, h3, rfl, rfl, rfl, h5⟩⟩
    · exact ⟨_, _, _, rfl, .inr ⟨h1, rfl, rfl, rfl, h3⟩⟩
  clear hres
  replace hz3 := Keep.mk hz3
  replace hold3 := Keep.mk hold3
  replace hr2 := Keep.mk hr2
  replace hch := Keep.mk hch
  walk_nrm
  (refine y_nw rfl (by rfl) rfl (by first | exact nx_of rfl | exact nx_nil rfl rfl | exact nx_int rfl rfl rfl) (fun dd hS K hK => ?_); go_simp; refine hK _ _ _ ?_; clear hK K hS dd; simp only [recOf]; try walk_nrm)
  (refine y_nw rfl (by rfl) rfl (by first | exact nx_of rfl | exact nx_nil rfl rfl | exact nx_int rfl rfl rfl) (fun dd hS K hK => ?_); go_simp; refine hK _ _ _ ?_; clear hK K hS dd; simp only [recOf]; try walk_nrm)
  (refine y_nw rfl (by rfl) rfl (by first | exact nx_of rfl | exact nx_nil rfl rfl | exact nx_int rfl rfl rfl) (fun dd hS K hK => ?_); go_simp; refine hK _ _ _ ?_; clear hK K hS dd; simp only [recOf]; try walk_nrm)
  (refine y_nw rfl (by rfl) rfl (by first | exact nx_of rfl | exact nx_nil rfl rfl | exact nx_int rfl rfl rfl) (fun dd hS K hK => ?_); go_simp; refine hK _ _ _ ?_; clear hK K hS dd; simp only [recOf]; try walk_nrm)
  have N4 := newO w3 (.cells #[.int .i64 0, .int .i64 0, .bool false, .int .i64 0] 224)
  generalize w3.alloc (.cells #[.int .i64 0, .int .i64 0, .bool false, .int .i64 0] 224) = w4 at N4 ⊢
  refine y_storeRow rfl (by rfl) rfl rfl rfl rfl N4.is (by kernel_rfl) rfl (by simp [Value.oneCell']) (hf _) fun w5 S5 => ?_
  walk_nrm
  replace N4 := newO_set N4 S5
  clear S5 w4
  have a0 : w5.cell? ⟨w3.heap.size, 0, none⟩ = some (.int .i64 x0) := by unfold World.cell?; rw [N4.is]; rfl
  have a1 : w5.cell? ⟨w3.heap.size, 1, none⟩ = some (.int .i64 x1) := by unfold World.cell?; rw [N4.is]; rfl
  have a2 : w5.cell? ⟨w3.heap.size, 2, none⟩ = some (.bool x2) := by unfold World.cell?; rw [N4.is]; rfl
  have a3 : w5.cell? ⟨w3.heap.size, 3, none⟩ = some (.int .i64 0) := by unfold World.cell?; rw [N4.is]; rfl
  replace N4 := Keep.mk N4
  repeat (first
    | refine y_seq ?_
    | (refine y_region ?_; simp only [List.size_toArray, List.length_cons, List.length_nil, Nat.reduceAdd, Nat.zero_add, List.range, List.range.loop])
    | refine y_regionEnd ?_
    | (refine y_nw rfl (by rfl) rfl (by first | exact nx_of rfl | exact nx_nil rfl rfl | exact nx_int rfl rfl rfl) (fun dd hS K hK => ?_); go_simp; refine hK _ _ _ ?_; clear hK K hS dd; simp only [recOf]; try walk_nrm)
    | (refine y_unwanted rfl (by rfl) ?_; try walk_nrm)
    | (refine y_cond true rfl ?_; simp only [if_true])
    | (refine y_cond false rfl ?_; simp only [Bool.false_eq_true, if_false])
    | refine y_skip ?_ | refine y_block ?_ | refine y_inBlock ?_ | refine y_label ?_ | refine y_exit rfl ?_ | refine y_ret ?_ | refine y_end ?_ | refine y_scope ?_ | refine y_inScope ?_)
  refine y_drawnQ (fun _ w' => w'.cell? ⟨w3.heap.size, 0, none⟩ = some (.int .i64 x0) ∧ w'.cell? ⟨w3.heap.size, 1, none⟩ = some (.int .i64 x1) ∧ w'.cell? ⟨w3.heap.size, 2, none⟩ = some (.bool x2) ∧ w'.cell? ⟨w3.heap.size, 3, none⟩ = some (.int .i64 0)) (fun _ => false) (by kernel_rfl) rfl ?_
  simp only [List.size_toArray, List.length_cons, List.length_nil, Nat.reduceAdd, Nat.reduceSub, Nat.zero_add, Array.replicate_succ, Array.replicate_zero, List.push_toArray, List.append_toArray, List.nil_append, List.cons_append, List.append_nil]
  first | (apply anyX_takeW (i := 0) rfl; (focus rfl); (focus (first | exact nx_of rfl | exact nx_nil rfl rfl | exact nx_int rfl rfl rfl)); (focus (rintro σ' w' ⟨s0, s1, s2, s3⟩ d K hK; go_simp; exact hK)); (focus kernel_rfl); (focus kernel_rfl); (focus kernel_rfl); (focus kernel_rfl); (focus (exact ⟨a0, a1, a2, a3⟩))) | (refine anyX_takeU (i := 0) rfl rfl (by kernel_rfl) (by kernel_rfl) (by kernel_rfl) (by kernel_rfl) (by exact ⟨a0, a1, a2, a3⟩) ?_)
  try walk_nrm
  first | (apply anyX_takeW (i := 1) rfl; (focus rfl); (focus (first | exact nx_of rfl | exact nx_nil rfl rfl | exact nx_int rfl rfl rfl)); (focus (rintro σ' w' ⟨s0, s1, s2, s3⟩ d K hK; go_simp; exact hK)); (focus kernel_rfl); (focus kernel_rfl); (focus kernel_rfl); (focus kernel_rfl); (focus (exact ⟨a0, a1, a2, a3⟩))) | (refine anyX_takeU (i := 1) rfl rfl (by kernel_rfl) (by kernel_rfl) (by kernel_rfl) (by kernel_rfl) (by exact ⟨a0, a1, a2, a3⟩) ?_)
  try walk_nrm
  first | (apply anyX_takeW (i := 2) rfl; (focus rfl); (focus (first | exact nx_of rfl | exact nx_nil rfl rfl | exact nx_int rfl rfl rfl)); (focus (rintro σ' w' ⟨s0, s1, s2, s3⟩ d K hK; go_simp; exact hK)); (focus kernel_rfl); (focus kernel_rfl); (focus kernel_rfl); (focus kernel_rfl); (focus (exact ⟨a0, a1, a2, a3⟩))) | (refine anyX_takeU (i := 2) rfl rfl (by kernel_rfl) (by kernel_rfl) (by kernel_rfl) (by kernel_rfl) (by exact ⟨a0, a1, a2, a3⟩) ?_)
  try walk_nrm
  first | (apply anyX_takeW (i := 3) rfl; (focus rfl); (focus (first | exact nx_of rfl | exact nx_nil rfl rfl | exact nx_int rfl rfl rfl)); (focus (rintro σ' w' ⟨s0, s1, s2, s3⟩ d K hK; go_simp; exact hK)); (focus kernel_rfl); (focus kernel_rfl); (focus kernel_rfl); (focus kernel_rfl); (focus (exact ⟨a0, a1, a2, a3⟩))) | (refine anyX_takeU (i := 3) rfl rfl (by kernel_rfl) (by kernel_rfl) (by kernel_rfl) (by kernel_rfl) (by exact ⟨a0, a1, a2, a3⟩) ?_)
  try walk_nrm
  first | (apply anyX_takeW (i := 4) rfl; (focus rfl); (focus (first | exact nx_of rfl | exact nx_nil rfl rfl | exact nx_int rfl rfl rfl)); (focus (rintro σ' w' ⟨s0, s1, s2, s3⟩ d K hK; go_simp; exact hK)); (focus kernel_rfl); (focus kernel_rfl); (focus kernel_rfl); (focus kernel_rfl); (focus (exact ⟨a0, a1, a2, a3⟩))) | (refine anyX_takeU (i := 4) rfl rfl (by kernel_rfl) (by kernel_rfl) (by kernel_rfl) (by kernel_rfl) (by exact ⟨a0, a1, a2, a3⟩) ?_)
  try walk_nrm
  first | (apply anyX_takeW (i := 5) rfl; (focus rfl); (focus (first | exact nx_of rfl | exact nx_nil rfl rfl | exact nx_int rfl rfl rfl)); (focus (rintro σ' w' ⟨s0, s1, s2, s3⟩ d K hK; go_simp; exact hK)); (focus kernel_rfl); (focus kernel_rfl); (focus kernel_rfl); (focus kernel_rfl); (focus (exact ⟨a0, a1, a2, a3⟩))) | (refine anyX_takeU (i := 5) rfl rfl (by kernel_rfl) (by kernel_rfl) (by kernel_rfl) (by kernel_rfl) (by exact ⟨a0, a1, a2, a3⟩) ?_)
  try walk_nrm
  first | (apply anyX_takeW (i := 6) rfl; (focus rfl); (focus (first | exact nx_of rfl | exact nx_nil rfl rfl | exact nx_int rfl rfl rfl)); (focus (rintro σ' w' ⟨s0, s1, s2, s3⟩ d K hK; go_simp; exact hK)); (focus kernel_rfl); (focus kernel_rfl); (focus kernel_rfl); (focus kernel_rfl); (focus (exact ⟨a0, a1, a2, a3⟩))) | (refine anyX_takeU (i := 6) rfl rfl (by kernel_rfl) (by kernel_rfl) (by kernel_rfl) (by kernel_rfl) (by exact ⟨a0, a1, a2, a3⟩) ?_)
  try walk_nrm
  first | (apply anyX_takeW (i := 7) rfl; (focus rfl); (focus (first | exact nx_of rfl | exact nx_nil rfl rfl | exact nx_int rfl rfl rfl)); (focus (rintro σ' w' ⟨s0, s1, s2, s3⟩ d K hK; go_simp; exact hK)); (focus kernel_rfl); (focus kernel_rfl); (focus kernel_rfl); (focus kernel_rfl); (focus (exact ⟨a0, a1, a2, a3⟩))) | (refine anyX_takeU (i := 7) rfl rfl (by kernel_rfl) (by kernel_rfl) (by kernel_rfl) (by kernel_rfl) (by exact ⟨a0, a1, a2, a3⟩) ?_)
  try walk_nrm
  first | (apply anyX_takeW (i := 8) rfl; (focus rfl); (focus (first | exact nx_of rfl | exact nx_nil rfl rfl | exact nx_int rfl rfl rfl)); (focus (rintro σ' w' ⟨s0, s1, s2, s3⟩ d K hK; go_simp; exact hK)); (focus kernel_rfl); (focus kernel_rfl); (focus kernel_rfl); (focus kernel_rfl); (focus (exact ⟨a0, a1, a2, a3⟩))) | (refine anyX_takeU (i := 8) rfl rfl (by kernel_rfl) (by kernel_rfl) (by kernel_rfl) (by kernel_rfl) (by exact ⟨a0, a1, a2, a3⟩) ?_)
  try walk_nrm
  first | (apply anyX_takeW (i := 9) rfl; (focus rfl); (focus (first | exact nx_of rfl | exact nx_nil rfl rfl | exact nx_int rfl rfl rfl)); (focus (rintro σ' w' ⟨s0, s1, s2, s3⟩ d K hK; go_simp; exact hK)); (focus kernel_rfl); (focus kernel_rfl); (focus kernel_rfl); (focus kernel_rfl); (focus (exact ⟨a0, a1, a2, a3⟩))) | (refine anyX_takeU (i := 9) rfl rfl (by kernel_rfl) (by kernel_rfl) (by kernel_rfl) (by kernel_rfl) (by exact ⟨a0, a1, a2, a3⟩) ?_)
  try walk_nrm
  first | (apply anyX_takeW (i := 10) rfl; (focus rfl); (focus (first | exact nx_of rfl | exact nx_nil rfl rfl | exact nx_int rfl rfl rfl)); (focus (rintro σ' w' ⟨s0, s1, s2, s3⟩ d K hK; go_simp; exact hK)); (focus kernel_rfl); (focus kernel_rfl); (focus kernel_rfl); (focus kernel_rfl); (focus (exact ⟨a0, a1, a2, a3⟩))) | (refine anyX_takeU (i := 10) rfl rfl (by kernel_rfl) (by kernel_rfl) (by kernel_rfl) (by kernel_rfl) (by exact ⟨a0, a1, a2, a3⟩) ?_)
  try walk_nrm
  first | (apply anyX_takeW (i := 11) rfl; (focus rfl); (focus (first | exact nx_of rfl | exact nx_nil rfl rfl | exact nx_int rfl rfl rfl)); (focus (rintro σ' w' ⟨s0, s1, s2, s3⟩ d K hK; go_simp; exact hK)); (focus kernel_rfl); (focus kernel_rfl); (focus kernel_rfl); (focus kernel_rfl); (focus (exact ⟨a0, a1, a2, a3⟩))) | (refine anyX_takeU (i := 11) rfl rfl (by kernel_rfl) (by kernel_rfl) (by kernel_rfl) (by kernel_rfl) (by exact ⟨a0, a1, a2, a3⟩) ?_)
  try walk_nrm
  refine anyX_end (by kernel_rfl) ?_
  repeat (first
    | refine y_seq ?_
    | (refine y_region ?_; simp only [List.size_toArray, List.length_cons, List.length_nil, Nat.reduceAdd, Nat.zero_add, List.range, List.range.loop])
    | refine y_regionEnd ?_
    | (refine y_nw rfl (by rfl) rfl (by first | exact nx_of rfl | exact nx_nil rfl rfl | exact nx_int rfl rfl rfl) (fun dd hS K hK => ?_); go_simp; refine hK _ _ _ ?_; clear hK K hS dd; simp only [recOf]; try walk_nrm)
    | (refine y_unwanted rfl (by rfl) ?_; try walk_nrm)
    | (refine y_cond true rfl ?_; simp only [if_true])
    | (refine y_cond false rfl ?_; simp only [Bool.false_eq_true, if_false])
    | refine y_skip ?_ | refine y_block ?_ | refine y_inBlock ?_ | refine y_label ?_ | refine y_exit rfl ?_ | refine y_ret ?_ | refine y_end ?_ | refine y_scope ?_ | refine y_inScope ?_)
  refine y_leave rfl rfl Try.func47 (resultsC_tmp4 rfl _) ?_
  replace hz3 := Keep.out hz3
  replace hold3 := Keep.out hold3
  replace hr2 := Keep.out hr2
  replace hch := Keep.out hch
  replace N4 := Keep.out N4
  replace H := Keep.out H
  replace U2 := Keep.out U2
  replace g1 := Keep.out g1
  have z1 := g1.size
  have z2 := U2.size
  have z4 := N4.size
  refine H _ _ _ ⟨rfl, by omega, fun b hb h1 h2 h3 => ?_, ?_, ?_⟩
  · rw [N4.old b (by omega), hold3 b (by omega) h1 h2, U2.other b h3, g1.old b hb]
  · rw [show ((k + 1 : Nat) : Int) = (k : Int) + 1 by omega]
    exact hch.grew ⟨by omega, N4.old⟩
  · rcases hr2 with ⟨j, v, qs, h1, h2, h3, rfl, rfl, rfl, h5⟩ | ⟨h1, rfl, rfl, rfl, h3⟩
    · exact .inl ⟨j, _, qs, h1, h2, h3, rfl, h5.grew N4.old⟩
    · exact .inr ⟨h1, rfl, h3.grew N4.old⟩
end Go.Proofs.Ytcibnfjpagmdaaa
