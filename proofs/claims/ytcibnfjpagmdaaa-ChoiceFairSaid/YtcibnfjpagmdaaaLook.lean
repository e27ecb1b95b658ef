/- A look at several pipes, one goroutine alone. -/
import Derived.Test.YtcibnfjpagmdaaaChoice
import Derived.Test.YtcibnfjpagmdaaaRes
import Derived.Laws.Tables
set_option linter.unusedSimpArgs false
set_option linter.unusedVariables false
set_option maxRecDepth 100000
set_option maxHeartbeats 4000000
namespace Go.Proofs.Ytcibnfjpagmdaaa
open Go.TX Go.Conc Go.RowKit Go.MapKept
variable {J : Judge Try.prog} {σ : Cfg} {w : World}

/-- Several pipes of one bell. -/
structure Fam (w : World) (bell : Nat) (d : Int) (n : Nat) (S : Nat → Shape) (o : Nat → Nat) (q : Nat → List Int) : Prop where
  isBell : CellIs w bell d
  pq : ∀ x, x < n → PQ w (S x) (o x) (q x) false ∧ (S x).bell = bell
  apart : ∀ x y, x < n → y < n → x ≠ y → ∀ b, (S x).cell b → ¬ (S y).cell b

def upd1 {α : Type} (f : Nat → α) (i : Nat) (v : α) : Nat → α := fun x => if x = i then v else f x

theorem PQ.cellIs {S : Shape} {o : Nat} {q : List Int} {cl : Bool} (h : PQ w S o q cl) {b : Nat} (hb : S.cell b) : ∃ v, CellIs w b v := by
  rcases hb with rfl | rfl | ⟨j, hj, rfl⟩ | ⟨j, hj, rfl⟩
  · exact ⟨_, h.i⟩
  · exact ⟨_, h.u⟩
  · by_cases hx : ∃ x v, q[x]? = some v ∧ (o + x) % S.n = j
    · obtain ⟨x, v, h1, h2⟩ := hx
      exact ⟨_, h2 ▸ (h.full x v h1).1⟩
    · have hn := h.pow.le
      -- the k in o .. o + n with k mod n = j
      obtain ⟨k, hk1, hk2, hk3⟩ : ∃ k, o ≤ k ∧ k < o + S.n ∧ k % S.n = j := by
        by_cases e : o % S.n ≤ j
        · refine ⟨o + (j - o % S.n), by omega, by omega, ?_⟩
          rw [Nat.add_mod, Nat.mod_eq_of_lt (show j - o % S.n < S.n by omega), Nat.mod_eq_of_lt] <;> omega
        · have := Nat.mod_lt o (show 0 < S.n by omega)
          refine ⟨o + (j + S.n - o % S.n), by omega, by omega, ?_⟩
          rw [Nat.add_mod, Nat.mod_eq_of_lt (show j + S.n - o % S.n < S.n by omega), show o % S.n + (j + S.n - o % S.n) = j + S.n by omega, Nat.add_mod_right, Nat.mod_eq_of_lt hj]
      by_cases e : o + q.length ≤ k
      · exact ⟨_, hk3 ▸ h.room k e hk2⟩
      · exact absurd ⟨k - o, q[k - o], List.getElem?_eq_getElem (by omega), by rw [show o + (k - o) = k by omega]; exact hk3⟩ hx
  · exact h.slots j hj
theorem not_p {S : Shape} (L : Laid w S) (hn : 0 < S.n) {b : Nat} {v : Int} (h : CellIs w b v) : b ≠ S.p ∧ b ≠ S.pl := by
  refine ⟨fun e => ?_, fun e => ?_⟩
  · subst e; have := h.v.symm.trans L.p0; simp at this
  · subst e; have := h.v.symm.trans (L.lt 0 hn); simp at this

/-- One of them is turned. -/
theorem Fam.turn {w' : World} {bell : Nat} {d d' : Int} {n : Nat} {S : Nat → Shape} {o : Nat → Nat} {q : Nat → List Int} (F : Fam w bell d n S o q) {x : Nat} (hx : x < n) {o' : Nat} {q' : List Int} (h : PQ w' (S x) o' q' false) (hb : CellIs w' bell d') (hO : OnlyCells w w' (S x)) :
    Fam w' bell d' n S (upd1 o x o') (upd1 q x q') := by
  refine ⟨hb, fun y hy => ?_, F.apart⟩
  by_cases e : y = x
  · subst e; simp only [upd1, if_true]; exact ⟨h, (F.pq y hy).2⟩
  · simp only [upd1, if_neg e]
    obtain ⟨hP, hbe⟩ := F.pq y hy
    obtain ⟨hX, hbx⟩ := F.pq x hx
    have hn := hP.pow.le
    have A := hP.apart
    have hnot : ∀ b, (S x).cell b → b ≠ (S y).p ∧ b ≠ (S y).pl := fun b hb => by
      obtain ⟨v, hv⟩ := hX.cellIs hb
      exact not_p hP.laid (by omega) hv
    refine ⟨hP.later (hO.other _ (fun hc => (hnot _ hc).1 rfl) (by rw [hbx, ← hbe]; exact A.pp.1)) (hO.other _ (fun hc => (hnot _ hc).2 rfl) (by rw [hbx, ← hbe]; exact A.pp.2)) (fun b hb => hO.other _ (F.apart y x hy hx e b hb) (by rw [hbx, ← hbe]; exact (A.pc b hb).2.2)), hbe⟩
theorem Fam.grew {w' : World} {bell : Nat} {d : Int} {n : Nat} {S : Nat → Shape} {o : Nat → Nat} {q : Nat → List Int} (F : Fam w bell d n S o q) (g : ∀ k, k < w.heap.size → w'.heap[k]? = w.heap[k]?) : Fam w' bell d n S o q := by
  refine ⟨F.isBell.later (g _ F.isBell.lt), fun x hx => ⟨?_, (F.pq x hx).2⟩, F.apart⟩
  obtain ⟨hP, _⟩ := F.pq x hx
  have hn := hP.pow.le
  exact hP.later (g _ (lt_of_cell hP.laid.p0)) (g _ (lt_of_cell (hP.laid.lt 0 (by omega)))) fun b hb => by obtain ⟨v, hv⟩ := hP.cellIs hb; exact g _ hv.lt

/-- A block that is none of theirs is turned. -/
theorem Fam.other {w' : World} {bell : Nat} {d : Int} {n : Nat} {S : Nat → Shape} {o : Nat → Nat} {q : Nat → List Int} (F : Fam w bell d n S o q) {B : Nat} {y0 : Int} {A : List Value} (hB : w.heap[B]? = some (.cells (.int .i64 y0 :: A).toArray 224)) (g : ∀ k, k ≠ B → w'.heap[k]? = w.heap[k]?) : Fam w' bell d n S o q := by
  have hb0 : w.cell? ⟨B, 0, none⟩ = some (.int .i64 y0) := by unfold World.cell?; rw [hB]; rfl
  have hc : ∀ b v, CellIs w b v → b ≠ B := fun b v h e => by subst e; have := h.symm.trans hB; simp at this
  refine ⟨F.isBell.later (g _ (hc _ _ F.isBell)), fun x hx => ⟨?_, (F.pq x hx).2⟩, F.apart⟩
  obtain ⟨hP, _⟩ := F.pq x hx
  have hn := hP.pow.le
  refine hP.later (g _ fun e => ?_) (g _ fun e => ?_) fun b hb => by obtain ⟨v, hv⟩ := hP.cellIs hb; exact g _ (hc _ _ hv)
  · have := hP.laid.p0; rw [e, hb0] at this; cases this
  · have := hP.laid.lt 0 (by omega); rw [e] at this; simp only [Nat.zero_mul] at this; rw [hb0] at this; cases this

/-- A store of a whole block. -/
theorem y_storeRow {P : Program} {J : Judge P} {b : Frame} {a : Act} {k : List Item} {cs : List Frame} {ops : Array Oper} {i : Nat} {rest : List Nat} {o : Oper} {t e : TypeId} {x y : Operand} {g : Nat} {cur vs : Array Value} (ho : ops[i]? = some o) (hw : Region.wanted o (yielded ops a.tmps) = true) (hk : (b.kind == CallKind.early) = false) (hop : o.op = .store t x y)
    (hx : a.eval x = .pointer (some ⟨g, 0, none⟩)) (hy : a.eval y = .agg vs) (hb : w.heap[g]? = some (.cells cur e)) (hi : (P.info? t).map (·.size) = some vs.size) (hsz : cur.size = vs.size) (h1 : vs.all (·.oneCell') = true) (hf : σ.Free (· = g))
    (h : ∀ w', SetO w w' g (.cells vs e) → J.Y σ (G (b.at (a.put o.dst undef) (.inRegion ops rest :: k)) cs) w') : J.Y σ (G (b.at a (.inRegion ops (i :: rest) :: k)) cs) w := by
  refine y_wb (· = g) ho hw hk ?_ (fun c hc => by subst hc; exact ⟨lt_of_get hb, fun o ho => by rw [hb] at ho; cases ho; trivial⟩) hf fun d _ K hK => ?_
  · unfold execOp
    simp only [hop, hx]
    exact Wb_bind (wb_store t ⟨g, 0, none⟩ _ rfl) fun _ => trivial
  · have hr := run_storeVar_row (P := P) (w.at d) g e t cur vs hb hi hsz h1
    unfold execOp
    simp only [hop, hx, hy, Instr.storeAt, Instr.sureAddr, Sem.run_bind, Sem.run_pure, Result.andThen_ok, hr]
    exact hK (.act (a.put o.dst undef)) (w.setRow g vs) d (h _ ⟨setRow_heap w g cur vs e _ hb, setRow_size w g vs, fun c hc => setRow_other w g c vs hc⟩)

theorem newO_set {w0 w1 w2 : World} {o o' : Obj} (h : NewO w0 w1 o) (s : SetO w1 w2 w0.heap.size o') : NewO w0 w2 o' := ⟨s.is, s.size.trans h.size, fun c hc => (s.other c (by omega)).trans (h.old c hc)⟩

theorem tmod_nat (a b : Nat) : Int.tmod (a : Int) (b : Int) = ((a % b : Nat) : Int) := by rw [Int.tmod_eq_emod_of_nonneg (by omega)]; omega

theorem look_recv (l cap n : Nat) (x : Int) (k f : Nat) (t : Value) (hoff : ∀ w', Off w' t) (hn : 0 < n) (hmax : n < 2 ^ 40) (hx : IntKind.i64.wrap (x - 1) = (k : Int)) (hfk : f = k % n) {bell : Nat} {d : Int} {S : Nat → Shape} {o : Nat → Nat} {q : Nat → List Int} (F : Fam w bell d n S o q)
    (cs0 : List (Value × Bool × Int)) (hl : Cases w l cap cs0) (hN : cs0.length = n) (hcs : ∀ x, x < n → ∃ va, cs0[x]? = some (.pointer (some ⟨(S x).p, 0, none⟩), false, va)) (hsm : ∀ x, x < n → o x + (q x).length < 2 ^ 60)
    (hf : ∀ b, σ.Free (· = b)) :
    CallsX J 143 #[t, .slice (some ⟨l, 0, none⟩) n cap, .int .i64 x] σ w fun r σ' w' => σ' = σ ∧ w.heap.size ≤ w'.heap.size ∧ (∀ c, c < w.heap.size → (∀ x, x < n → ¬ (S x).cell c) → c ≠ bell → w'.heap[c]? = w.heap[c]?) ∧
      ((∃ j v qs, j < n ∧ q ((f + j) % n) = v :: qs ∧ (∀ i, i < j → q ((f + i) % n) = []) ∧ r = .tuple #[.agg #[.int .i64 (((f + j) % n : Nat) : Int), .int .i64 v, .bool true, .int .i64 0], .bool true] ∧
          Fam w' bell (IntKind.i64.wrap (d + 1)) n S (upd1 o ((f + j) % n) (o ((f + j) % n) + 1)) (upd1 q ((f + j) % n) qs)) ∨
       ((∀ x, x < n → q x = []) ∧ r = .tuple #[.agg #[.int .i64 (-1), .int .i64 0, .bool false, .int .i64 0], .bool false] ∧ Fam w' bell d n S o q)) := by
  have e0 : ¬ n = 0 := by omega
  have hfn : f < n := hfk ▸ Nat.mod_lt _ hn
  have b2 : Int.tmod (k : Int) (n : Int) = (f : Int) := by rw [tmod_nat, hfk]
  have b3 : IntKind.i64.wrap ((f : Int) + (n : Int)) = (f : Int) + (n : Int) := wrap_small (by omega) (by omega)
  have b4 : Int.tmod ((f : Int) + (n : Int)) (n : Int) = (f : Int) := by
    rw [show (f : Int) + (n : Int) = ((f + n : Nat) : Int) by omega, tmod_nat, Nat.add_mod_right, Nat.mod_eq_of_lt hfn]
  clear hfk
  refine callsX_body Try.func143 rfl fun c cs H HN => ?_
  simp only [Try.f143, Try.ntmps143, List.size_toArray, List.length_cons, List.length_nil, Nat.reduceAdd, Nat.reduceSub, Nat.zero_add, Array.replicate_succ, Array.replicate_zero, List.push_toArray, List.append_toArray, List.nil_append, List.cons_append, List.append_nil]
  repeat (first
    | refine y_seq ?_
    | (refine y_region ?_; simp only [List.size_toArray, List.length_cons, List.length_nil, Nat.reduceAdd, Nat.zero_add, List.range, List.range.loop])
    | refine y_regionEnd ?_
    | (refine y_nw rfl (by rfl) rfl (by first | exact nx_of rfl | exact nx_nil rfl rfl | exact nx_int rfl rfl rfl) (fun dd hS K hK => ?_); go_simp; refine hK _ _ _ ?_; clear hK K hS dd; simp only [recOf]; try walk_nrm)
    | (refine y_unwanted rfl (by rfl) ?_; try walk_nrm)
    | (refine y_cond true rfl ?_; simp only [if_true])
    | (refine y_cond false rfl ?_; simp only [Bool.false_eq_true, if_false])
    | refine y_skip ?_ | refine y_block ?_ | refine y_inBlock ?_ | refine y_label ?_ | refine y_exit rfl ?_ | refine y_ret ?_ | refine y_end ?_ | refine y_scope ?_ | refine y_inScope ?_)
  have N1 := newO w (.cells #[.int .i64 0, .int .i64 0, .bool false, .int .i64 0] 224)
  have N2 := newO (w.alloc (.cells #[.int .i64 0, .int .i64 0, .bool false, .int .i64 0] 224)) (.cells #[.int .i64 0, .int .i64 0, .bool false, .int .i64 0] 224)
  generalize (w.alloc (.cells #[.int .i64 0, .int .i64 0, .bool false, .int .i64 0] 224)).alloc (.cells #[.int .i64 0, .int .i64 0, .bool false, .int .i64 0] 224) = w0 at N2 ⊢
  generalize w.alloc (.cells #[.int .i64 0, .int .i64 0, .bool false, .int .i64 0] 224) = wA at N1 N2
  have zA := N1.size
  have z0 := N2.size
  rw [zA] at z0
  refine y_loopI (fun r a σ' w' => σ' = σ ∧ ∃ (i : Nat) (x0 x1 x3 : Int) (x2 : Bool), r = n - i ∧ i ≤ n ∧ w.heap.size + 2 ≤ w'.heap.size ∧ (∀ c, c < w.heap.size → w'.heap[c]? = w.heap[c]?) ∧
      w'.heap[w.heap.size]? = some (.cells #[.int .i64 0, .int .i64 0, .bool false, .int .i64 0] 224) ∧ w'.heap[w.heap.size + 1]? = some (.cells #[.int .i64 x0, .int .i64 x1, .bool x2, .int .i64 x3] 224) ∧
      (∀ i', i' < i → q ((f + i') % n) = []) ∧ Tm a 70 [(0, t), (1, .slice (some ⟨l, 0, none⟩) n cap), (2, .int .i64 x), (6, .pointer (some ⟨w.heap.size, 0, none⟩)), (7, .bool false), (8, .int .i64 n), (9, .int .i64 f), (10, .pointer (some ⟨w.heap.size + 1, 0, none⟩)), (25, .int .i64 n), (26, .int .i64 (i : Int))]) n
    ⟨rfl, 0, 0, 0, 0, false, by omega, by omega, by omega, fun c hc => by rw [N2.old c (by omega), N1.old c hc], by rw [N2.old _ (by omega), N1.is], by rw [← zA]; exact N2.is, fun i' h => by omega, ⟨rfl, rfl, rfl, rfl, rfl, rfl, rfl, rfl, rfl, rfl, rfl, rfl, trivial⟩⟩ ?_
  clear N1 N2 zA z0
  rintro r IH a _ w1 ⟨rfl, i, x0, x1, x3, x2, hr, hi, hsz, hold, hA, hB, hno, hT⟩
  obtain ⟨j, rfl, h0', h1', h2', h3', h4', h5', h6', h7', h8', h9', -⟩ := Tm.lit hT
  simp only at h0' h1' h2' h3' h4' h5' h6' h7' h8' h9'
  simp only [List.range, List.range.loop, List.map_cons, List.map_nil, h0', h1', h2', h3', h4', h5', h6', h7', h8', h9']
  clear h0' h1' h2' h3' h4' h5' h6' h7' h8' h9' hT
  have F1 : Fam w1 bell d n S o q := F.grew hold
  by_cases e : i < n
  · have e1 : (i : Int) < n := by omega
    have hy : (f + i) % n < n := Nat.mod_lt _ hn
    obtain ⟨y, hyd⟩ : ∃ y, y = (f + i) % n := ⟨_, rfl⟩
    rw [← hyd] at hy
    obtain ⟨va, hc0⟩ := hcs y hy
    have c1 : IntKind.i64.wrap ((f : Int) + (i : Int)) = (f : Int) + (i : Int) := wrap_small (by omega) (by omega)
    have c2 : Int.tmod ((f : Int) + (i : Int)) (n : Int) = (y : Int) := by rw [show (f : Int) + (i : Int) = ((f + i : Nat) : Int) by omega, tmod_nat, hyd]
    have fB := frozen_of (w := w1) (i := 0) hB
    have aB : w1.cell? ⟨w.heap.size + 1, 0, none⟩ = some (.int .i64 x0) := by unfold World.cell?; rw [hB]; rfl
    clear HN
    replace hyd := Keep.mk hyd
    replace F := Keep.mk F
    replace F1 := Keep.mk F1
    replace hcs := Keep.mk hcs
    replace hsm := Keep.mk hsm
    replace hold := Keep.mk hold
    replace hno := Keep.mk hno
    replace hl := Keep.mk hl
    replace IH := Keep.mk IH
    replace H := Keep.mk H
    replace hc0 := Keep.mk hc0
    repeat (first
      | refine y_seq ?_
      | (refine y_region ?_; simp only [List.size_toArray, List.length_cons, List.length_nil, Nat.reduceAdd, Nat.zero_add, List.range, List.range.loop])
      | refine y_regionEnd ?_
      | (refine y_nw rfl (by rfl) rfl (by first | exact nx_of rfl | exact nx_nil rfl rfl | exact nx_int rfl rfl rfl) (fun dd hS K hK => ?_); go_simp; refine hK _ _ _ ?_; clear hK K hS dd; simp only [recOf]; try walk_nrm)
      | (refine y_unwanted rfl (by rfl) ?_; try walk_nrm)
      | (refine y_cond true rfl ?_; simp only [if_true])
      | (refine y_cond false rfl ?_; simp only [Bool.false_eq_true, if_false])
      | refine y_skip ?_ | refine y_block ?_ | refine y_inBlock ?_ | refine y_label ?_ | refine y_exit rfl ?_ | refine y_ret ?_ | refine y_end ?_ | refine y_scope ?_ | refine y_inScope ?_)
    refine y_storeRow rfl (by rfl) rfl rfl rfl rfl hB (by kernel_rfl) rfl (by simp [Value.oneCell']) (hf _) fun w2 S2 => ?_
    walk_nrm
    have hB2 := S2.is
    have hA2 : w2.heap[w.heap.size]? = _ := (S2.other _ (by omega)).trans hA
    have hold2 : ∀ c, c < w.heap.size → w2.heap[c]? = w.heap[c]? := fun c hc => (S2.other c (by omega)).trans (hold.out c hc)
    have k2 : ∀ {ad : Addr} {v : Value}, w.cell? ad = some v → w2.cell? ad = some v := fun {ad v} h => (cell?_of_block (hold2 _ (lt_of_cell h))).trans h
    have hz2 := S2.size
    clear aB fB hB hA
    have aB : w2.cell? ⟨w.heap.size + 1, 0, none⟩ = some (.int .i64 y) := by unfold World.cell?; rw [hB2]; rfl
    have l1 := k2 (hl.out.pipe y _ hc0.out)
    have l2 := k2 (hl.out.send y _ hc0.out)
    have l3 := k2 (hl.out.val y _ hc0.out)
    simp only at l1 l2 l3
    have y1 : (0 : Int) ≤ y := by omega
    have y2 : (y : Int) < n := by omega
    replace hold2 := Keep.mk hold2
    replace hA2 := Keep.mk hA2
    replace hB2 := Keep.mk hB2
    replace hz2 := Keep.mk hz2
    replace S2 := Keep.mk S2
    clear k2
    repeat (first
      | refine y_seq ?_
      | (refine y_region ?_; simp only [List.size_toArray, List.length_cons, List.length_nil, Nat.reduceAdd, Nat.zero_add, List.range, List.range.loop])
      | refine y_regionEnd ?_
      | (refine y_nw rfl (by rfl) rfl (by first | exact nx_of rfl | exact nx_nil rfl rfl | exact nx_int rfl rfl rfl) (fun dd hS K hK => ?_); go_simp; refine hK _ _ _ ?_; clear hK K hS dd; simp only [recOf]; try walk_nrm)
      | (refine y_unwanted rfl (by rfl) ?_; try walk_nrm)
      | (refine y_cond true rfl ?_; simp only [if_true])
      | (refine y_cond false rfl ?_; simp only [Bool.false_eq_true, if_false])
      | refine y_skip ?_ | refine y_block ?_ | refine y_inBlock ?_ | refine y_label ?_ | refine y_exit rfl ?_ | refine y_ret ?_ | refine y_end ?_ | refine y_scope ?_ | refine y_inScope ?_)
    have N3 := newO w2 (.cells #[.pointer none, .bool false, .int .i64 0] 92)
    generalize w2.alloc (.cells #[.pointer none, .bool false, .int .i64 0] 92) = wC at N3 ⊢
    refine y_storeRow rfl (by rfl) rfl rfl rfl rfl N3.is (by kernel_rfl) rfl (by simp [Value.oneCell']) (hf _) fun w3 S3 => ?_
    walk_nrm
    replace N3 := newO_set N3 S3
    clear S3 aB l1 l2 l3
    have v1 : w3.cell? ⟨w2.heap.size, 0, none⟩ = some (.pointer (some ⟨(S y).p, 0, none⟩)) := by unfold World.cell?; rw [N3.is]; rfl
    have v2 : w3.cell? ⟨w2.heap.size, 1, none⟩ = some (.bool false) := by unfold World.cell?; rw [N3.is]; rfl
    have hz3 := N3.size
    replace hold2 := Keep.out hold2
    replace hA2 := Keep.out hA2
    replace hB2 := Keep.out hB2
    replace hz2 := Keep.out hz2
    replace S2 := Keep.out S2
    have hold3 : ∀ c, c < w.heap.size → w3.heap[c]? = w.heap[c]? := fun c hc => (N3.old c (by omega)).trans (hold2 c hc)
    have hA3 := (N3.old w.heap.size (by omega)).trans hA2
    have hB3 := (N3.old (w.heap.size + 1) (by omega)).trans hB2
    have F3 : Fam w3 bell d n S o q := F.out.grew hold3
    have hz3' : w.heap.size + 2 ≤ w3.heap.size := by omega
    clear hA2 hB2 hz2 S2 hold2 hz3 N3 F1
    replace hold3 := Keep.mk hold3
    replace hA3 := Keep.mk hA3
    replace hB3 := Keep.mk hB3
    replace F3 := Keep.mk F3
    replace hz3' := Keep.mk hz3'
    repeat (first
      | refine y_seq ?_
      | (refine y_region ?_; simp only [List.size_toArray, List.length_cons, List.length_nil, Nat.reduceAdd, Nat.zero_add, List.range, List.range.loop])
      | refine y_regionEnd ?_
      | (refine y_nw rfl (by rfl) rfl (by first | exact nx_of rfl | exact nx_nil rfl rfl | exact nx_int rfl rfl rfl) (fun dd hS K hK => ?_); go_simp; refine hK _ _ _ ?_; clear hK K hS dd; simp only [recOf]; try walk_nrm)
      | (refine y_unwanted rfl (by rfl) ?_; try walk_nrm)
      | (refine y_cond true rfl ?_; simp only [if_true])
      | (refine y_cond false rfl ?_; simp only [Bool.false_eq_true, if_false])
      | refine y_skip ?_ | refine y_block ?_ | refine y_inBlock ?_ | refine y_label ?_ | refine y_exit rfl ?_ | refine y_ret ?_ | refine y_end ?_ | refine y_scope ?_ | refine y_inScope ?_)
    obtain ⟨hP, hbe⟩ := F3.out.pq y hy
    have hs60 := hsm.out y hy
    cases hq : q y with
    | nil =>
      rw [hq] at hP hs60
      replace hP := Keep.mk hP
      replace hs60 := Keep.mk hs60
      replace hq := Keep.mk hq
      replace hbe := Keep.mk hbe
      refine y_callR rfl (by rfl) rfl rfl Try.func106 (by kernel_rfl) (by kernel_rfl) (pq_empty hP.out (by simpa using hs60.out) hoff) (by simp only [List.map_toArray, List.map_cons, List.map_nil] <;> rfl) ?_
      rintro _ σ'' w'' ⟨rfl, e2, e3⟩
      rw [e2, e3]
      clear e2 e3 w'' σ''
      walk_nrm
      repeat (first
        | refine y_seq ?_
        | (refine y_region ?_; simp only [List.size_toArray, List.length_cons, List.length_nil, Nat.reduceAdd, Nat.zero_add, List.range, List.range.loop])
        | refine y_regionEnd ?_
        | (refine y_nw rfl (by rfl) rfl (by first | exact nx_of rfl | exact nx_nil rfl rfl | exact nx_int rfl rfl rfl) (fun dd hS K hK => ?_); go_simp; refine hK _ _ _ ?_; clear hK K hS dd; simp only [recOf]; try walk_nrm)
        | (refine y_unwanted rfl (by rfl) ?_; try walk_nrm)
        | (refine y_cond true rfl ?_; simp only [if_true])
        | (refine y_cond false rfl ?_; simp only [Bool.false_eq_true, if_false])
        | refine y_skip ?_ | refine y_block ?_ | refine y_inBlock ?_ | refine y_label ?_ | refine y_exit rfl ?_ | refine y_ret ?_ | refine y_end ?_ | refine y_scope ?_ | refine y_inScope ?_)
      replace hB3 := Keep.out hB3
      have aB1 : w3.cell? ⟨w.heap.size + 1, 1, none⟩ = some (.int .i64 0) := by unfold World.cell?; rw [hB3]; rfl
      have fz' := frozen_of (i := 1) hB3
      (refine y_store rfl (by rfl) rfl rfl rfl aB1 (hf _) (fun dd hS K hK => ?_); go_simp; refine hK _ _ _ ?_; clear hK K hS dd; simp only [recOf]; try walk_nrm)
      clear fz'
      have S4 := setO (i := 1) hB3 (.int .i64 0)
      generalize World.setCell _ _ _ = w4 at S4 ⊢
      replace S4 := Keep.mk S4
      repeat (first
        | refine y_seq ?_
        | (refine y_region ?_; simp only [List.size_toArray, List.length_cons, List.length_nil, Nat.reduceAdd, Nat.zero_add, List.range, List.range.loop])
        | refine y_regionEnd ?_
        | (refine y_nw rfl (by rfl) rfl (by first | exact nx_of rfl | exact nx_nil rfl rfl | exact nx_int rfl rfl rfl) (fun dd hS K hK => ?_); go_simp; refine hK _ _ _ ?_; clear hK K hS dd; simp only [recOf]; try walk_nrm)
        | (refine y_unwanted rfl (by rfl) ?_; try walk_nrm)
        | (refine y_cond true rfl ?_; simp only [if_true])
        | (refine y_cond false rfl ?_; simp only [Bool.false_eq_true, if_false])
        | refine y_skip ?_ | refine y_block ?_ | refine y_inBlock ?_ | refine y_label ?_ | refine y_exit rfl ?_ | refine y_ret ?_ | refine y_end ?_ | refine y_scope ?_ | refine y_inScope ?_)
      replace S4 := Keep.out S4
      replace hold3 := Keep.out hold3
      replace hA3 := Keep.out hA3
      replace hz3' := Keep.out hz3'
      replace IH := Keep.out IH
      replace hyd := Keep.out hyd
      replace hno := Keep.out hno
      replace hq := Keep.out hq
      rw [wrap_small (by omega) (by omega), show (i : Int) + 1 = ((i + 1 : Nat) : Int) by omega]
      have z4 := S4.size
      refine IH (n - (i + 1)) _ _ _ (by omega) ⟨rfl, i + 1, y, 0, 0, true, rfl, by omega, by omega, fun c hc => (S4.other c (by omega)).trans (hold3 c hc), (S4.other _ (by omega)).trans hA3, by simpa using S4.is, fun i' h' => ?_, ⟨rfl, rfl, rfl, rfl, rfl, rfl, rfl, rfl, rfl, rfl, rfl, rfl, trivial⟩⟩
      by_cases e4 : i' = i
      · subst e4; rw [← hyd]; exact hq
      · exact hno i' (by omega)
    | cons v qs =>
      rw [hq] at hP hs60
      have hbell3 : CellIs w3 (S y).bell d := hbe ▸ F3.out.isBell
      replace hP := Keep.mk hP
      replace hs60 := Keep.mk hs60
      replace hq := Keep.mk hq
      replace hbe := Keep.mk hbe
      replace hbell3 := Keep.mk hbell3
      refine y_callR rfl (by rfl) rfl rfl Try.func106 (by kernel_rfl) (by kernel_rfl) (pq_recv (d := d) hP.out (by have := hs60.out; simp at this; omega) hoff hbell3.out (fun b _ => hf b)) (by simp only [List.map_toArray, List.map_cons, List.map_nil] <;> rfl) ?_
      rintro _ σ'' w4 ⟨rfl, e2, R4⟩
      rw [e2]
      clear e2 σ''
      walk_nrm
      obtain ⟨P4, B4, O4⟩ := R4
      replace hB3 := Keep.out hB3
      replace hA3 := Keep.out hA3
      replace hP := Keep.out hP
      replace hold3 := Keep.out hold3
      replace F3 := Keep.out F3
      replace hbe := Keep.out hbe
      replace hz3' := Keep.out hz3'
      -- the two blocks of look's own are no cells of the pipe
      have hown : ∀ (g : Nat) (c : Array Value), w3.heap[g]? = some (.cells c 224) → w4.heap[g]? = w3.heap[g]? := fun g c h => O4.other g
        (fun hc => by obtain ⟨u, hu⟩ := hP.cellIs hc; have := hu.symm.trans h; simp at this)
        (fun hc => by subst hc; have := (hbe ▸ F3.isBell).symm.trans h; simp at this)
      have hB4 := (hown _ _ hB3).trans hB3
      have hA4 := (hown _ _ hA3).trans hA3
      have F4 := F3.turn hy P4 (hbe ▸ B4) O4
      have z4 := O4.size
      have hold4 : ∀ c, c < w.heap.size → (∀ x, x < n → ¬ (S x).cell c) → c ≠ bell → w4.heap[c]? = w.heap[c]? := fun c hc h1 h2 => (O4.other c (h1 y hy) (by rw [hbe]; exact h2)).trans (hold3 c hc)
      clear hB3 hA3 hown P4 B4 O4 hbell3 hP
      replace F4 := Keep.mk F4
      replace hold4 := Keep.mk hold4
      replace hA4 := Keep.mk hA4
      replace hold3 := Keep.mk hold3
      replace F3 := Keep.mk F3
      have aB1 : w4.cell? ⟨w.heap.size + 1, 1, none⟩ = some (.int .i64 0) := by unfold World.cell?; rw [hB4]; rfl
      (refine y_nw rfl (by rfl) rfl (by first | exact nx_of rfl | exact nx_nil rfl rfl | exact nx_int rfl rfl rfl) (fun dd hS K hK => ?_); go_simp; refine hK _ _ _ ?_; clear hK K hS dd; simp only [recOf]; try walk_nrm)
      (refine y_nw rfl (by rfl) rfl (by first | exact nx_of rfl | exact nx_nil rfl rfl | exact nx_int rfl rfl rfl) (fun dd hS K hK => ?_); go_simp; refine hK _ _ _ ?_; clear hK K hS dd; simp only [recOf]; try walk_nrm)
      (refine y_nw rfl (by rfl) rfl (by first | exact nx_of rfl | exact nx_nil rfl rfl | exact nx_int rfl rfl rfl) (fun dd hS K hK => ?_); go_simp; refine hK _ _ _ ?_; clear hK K hS dd; simp only [recOf]; try walk_nrm)
      (refine y_nw rfl (by rfl) rfl (by first | exact nx_of rfl | exact nx_nil rfl rfl | exact nx_int rfl rfl rfl) (fun dd hS K hK => ?_); go_simp; refine hK _ _ _ ?_; clear hK K hS dd; simp only [recOf]; try walk_nrm)
      have fz' := frozen_of (i := 1) hB4
      (refine y_store rfl (by rfl) rfl rfl rfl aB1 (hf _) (fun dd hS K hK => ?_); go_simp; refine hK _ _ _ ?_; clear hK K hS dd; simp only [recOf]; try walk_nrm)
      clear fz'
      have S5 := setO (i := 1) hB4 (.int .i64 v)
      generalize World.setCell _ _ _ = w5 at S5 ⊢
      have aB := S5.is
      have z5 := S5.size
      replace hA4 := (S5.other w.heap.size (by omega)).trans hA4.out
      replace F4 := F4.out.other hB4 S5.other
      replace hold4 : ∀ c, c < w.heap.size → (∀ x, x < n → ¬ (S x).cell c) → c ≠ bell → w5.heap[c]? = w.heap[c]? := fun c hc h1 h2 => (S5.other c (by omega)).trans (hold4.out c hc h1 h2)
      have aB0 : w5.cell? ⟨w.heap.size + 1, 0, none⟩ = some (.int .i64 y) := by unfold World.cell?; rw [aB]; rfl
      have aB1 : w5.cell? ⟨w.heap.size + 1, 1, none⟩ = some (.int .i64 v) := by unfold World.cell?; rw [aB]; rfl
      have aB2 : w5.cell? ⟨w.heap.size + 1, 2, none⟩ = some (.bool true) := by unfold World.cell?; rw [aB]; rfl
      have aB3 : w5.cell? ⟨w.heap.size + 1, 3, none⟩ = some (.int .i64 0) := by unfold World.cell?; rw [aB]; rfl
      clear S5 hB4 v1 v2
      replace F4 := Keep.mk F4
      replace hold4 := Keep.mk hold4
      replace hA4 := Keep.mk hA4
      replace aB := Keep.mk aB
      replace z5 := Keep.mk z5
      replace z4 := Keep.mk z4
      repeat (first
        | refine y_seq ?_
        | (refine y_region ?_; simp only [List.size_toArray, List.length_cons, List.length_nil, Nat.reduceAdd, Nat.zero_add, List.range, List.range.loop])
        | refine y_regionEnd ?_
        | (refine y_nw rfl (by rfl) rfl (by first | exact nx_of rfl | exact nx_nil rfl rfl | exact nx_int rfl rfl rfl) (fun dd hS K hK => ?_); go_simp; refine hK _ _ _ ?_; clear hK K hS dd; simp only [recOf]; try walk_nrm)
        | (refine y_unwanted rfl (by rfl) ?_; try walk_nrm)
        | (refine y_cond true rfl ?_; simp only [if_true])
        | (refine y_cond false rfl ?_; simp only [Bool.false_eq_true, if_false])
        | refine y_skip ?_ | refine y_block ?_ | refine y_inBlock ?_ | refine y_label ?_ | refine y_exit rfl ?_ | refine y_ret ?_ | refine y_end ?_ | refine y_scope ?_ | refine y_inScope ?_)
      replace hA4 := Keep.out hA4
      refine y_storeRow rfl (by rfl) rfl rfl rfl rfl hA4 (by kernel_rfl) rfl (by simp [Value.oneCell']) (hf _) fun w6 S6 => ?_
      walk_nrm
      replace F4 := Keep.out F4
      replace z5 := Keep.out z5
      replace z4 := Keep.out z4
      replace hold4 := Keep.out hold4
      replace hz3' := Keep.out hz3'
      replace aB := Keep.out aB
      replace hyd := Keep.out hyd
      replace hno := Keep.out hno
      replace hq := Keep.out hq
      replace H := Keep.out H
      have F6 := F4.other hA4 S6.other
      have hA6 := S6.is
      have z6 := S6.size
      have hold6 : ∀ c, c < w.heap.size → (∀ x, x < n → ¬ (S x).cell c) → c ≠ bell → w6.heap[c]? = w.heap[c]? := fun c hc h1 h2 => (S6.other c (by omega)).trans (hold4 c hc h1 h2)
      clear aB0 aB1 aB2 aB3 aB S6 hA4
      have a0 : w6.cell? ⟨w.heap.size, 0, none⟩ = some (.int .i64 y) := by unfold World.cell?; rw [hA6]; rfl
      have a1 : w6.cell? ⟨w.heap.size, 1, none⟩ = some (.int .i64 v) := by unfold World.cell?; rw [hA6]; rfl
      have a2 : w6.cell? ⟨w.heap.size, 2, none⟩ = some (.bool true) := by unfold World.cell?; rw [hA6]; rfl
      have a3 : w6.cell? ⟨w.heap.size, 3, none⟩ = some (.int .i64 0) := by unfold World.cell?; rw [hA6]; rfl
      replace F6 := Keep.mk F6
      replace hold6 := Keep.mk hold6
      replace hA6 := Keep.mk hA6
      replace z6 := Keep.mk z6
      replace F4 := Keep.mk F4
      replace hold4 := Keep.mk hold4
      replace hyd := Keep.mk hyd
      replace hno := Keep.mk hno
      replace H := Keep.mk H
      repeat (first
        | refine y_seq ?_
        | (refine y_region ?_; simp only [List.size_toArray, List.length_cons, List.length_nil, Nat.reduceAdd, Nat.zero_add, List.range, List.range.loop])
        | refine y_regionEnd ?_
        | (refine y_nw rfl (by rfl) rfl (by first | exact nx_of rfl | exact nx_nil rfl rfl | exact nx_int rfl rfl rfl) (fun dd hS K hK => ?_); go_simp; refine hK _ _ _ ?_; clear hK K hS dd; simp only [recOf]; try walk_nrm)
        | (refine y_unwanted rfl (by rfl) ?_; try walk_nrm)
        | (refine y_cond true rfl ?_; simp only [if_true])
        | (refine y_cond false rfl ?_; simp only [Bool.false_eq_true, if_false])
        | refine y_skip ?_ | refine y_block ?_ | refine y_inBlock ?_ | refine y_label ?_ | refine y_exit rfl ?_ | refine y_ret ?_ | refine y_end ?_ | refine y_scope ?_ | refine y_inScope ?_)
      refine y_leaveC (v := .tuple #[.agg #[.int .i64 y, .int .i64 v, .bool true, .int .i64 0], .bool true]) rfl rfl Try.func143 (fun d => ?_) ?_
      · unfold results
        go_simp
      · replace F6 := Keep.out F6
        replace hold6 := Keep.out hold6
        replace hyd := Keep.out hyd
        replace hno := Keep.out hno
        replace H := Keep.out H
        replace z6 := Keep.out z6
        refine H _ _ _ ⟨rfl, by omega, hold6, .inl ⟨i, v, qs, e, by rw [← hyd]; exact hq, fun i' h' => hno i' h', by rw [← hyd], by rw [← hyd]; exact F6⟩⟩
  · obtain rfl : i = n := by omega
    have e1 : ¬ ((i : Int) < i) := by omega
    clear HN IH
    replace F := Keep.mk F
    replace F1 := Keep.mk F1
    replace hcs := Keep.mk hcs
    replace hsm := Keep.mk hsm
    replace hold := Keep.mk hold
    replace hno := Keep.mk hno
    replace hl := Keep.mk hl
    replace H := Keep.mk H
    replace hB := Keep.mk hB
    replace hA := Keep.mk hA
    repeat (first
      | refine y_seq ?_
      | (refine y_region ?_; simp only [List.size_toArray, List.length_cons, List.length_nil, Nat.reduceAdd, Nat.zero_add, List.range, List.range.loop])
      | refine y_regionEnd ?_
      | (refine y_nw rfl (by rfl) rfl (by first | exact nx_of rfl | exact nx_nil rfl rfl | exact nx_int rfl rfl rfl) (fun dd hS K hK => ?_); go_simp; refine hK _ _ _ ?_; clear hK K hS dd; simp only [recOf]; try walk_nrm)
      | (refine y_unwanted rfl (by rfl) ?_; try walk_nrm)
      | (refine y_cond true rfl ?_; simp only [if_true])
      | (refine y_cond false rfl ?_; simp only [Bool.false_eq_true, if_false])
      | refine y_skip ?_ | refine y_block ?_ | refine y_inBlock ?_ | refine y_label ?_ | refine y_exit rfl ?_ | refine y_ret ?_ | refine y_end ?_ | refine y_scope ?_ | refine y_inScope ?_)
    replace hA := Keep.out hA
    refine y_storeRow rfl (by rfl) rfl rfl rfl rfl hA (by kernel_rfl) rfl (by simp [Value.oneCell']) (hf _) fun w6 S6 => ?_
    walk_nrm
    have F6 := F1.out.other hA S6.other
    have hA6 := S6.is
    have z6 := S6.size
    have hold6 : ∀ c, c < w.heap.size → (∀ x, x < i → ¬ (S x).cell c) → c ≠ bell → w6.heap[c]? = w.heap[c]? := fun c hc h1 h2 => (S6.other c (by omega)).trans (hold.out c hc)
    clear S6 hA
    have a0 : w6.cell? ⟨w.heap.size, 0, none⟩ = some (.int .i64 (-1)) := by unfold World.cell?; rw [hA6]; rfl
    have a1 : w6.cell? ⟨w.heap.size, 1, none⟩ = some (.int .i64 0) := by unfold World.cell?; rw [hA6]; rfl
    have a2 : w6.cell? ⟨w.heap.size, 2, none⟩ = some (.bool false) := by unfold World.cell?; rw [hA6]; rfl
    have a3 : w6.cell? ⟨w.heap.size, 3, none⟩ = some (.int .i64 0) := by unfold World.cell?; rw [hA6]; rfl
    replace F6 := Keep.mk F6
    replace hold6 := Keep.mk hold6
    replace hA6 := Keep.mk hA6
    replace z6 := Keep.mk z6
    repeat (first
      | refine y_seq ?_
      | (refine y_region ?_; simp only [List.size_toArray, List.length_cons, List.length_nil, Nat.reduceAdd, Nat.zero_add, List.range, List.range.loop])
      | refine y_regionEnd ?_
      | (refine y_nw rfl (by rfl) rfl (by first | exact nx_of rfl | exact nx_nil rfl rfl | exact nx_int rfl rfl rfl) (fun dd hS K hK => ?_); go_simp; refine hK _ _ _ ?_; clear hK K hS dd; simp only [recOf]; try walk_nrm)
      | (refine y_unwanted rfl (by rfl) ?_; try walk_nrm)
      | (refine y_cond true rfl ?_; simp only [if_true])
      | (refine y_cond false rfl ?_; simp only [Bool.false_eq_true, if_false])
      | refine y_skip ?_ | refine y_block ?_ | refine y_inBlock ?_ | refine y_label ?_ | refine y_exit rfl ?_ | refine y_ret ?_ | refine y_end ?_ | refine y_scope ?_ | refine y_inScope ?_)
    refine y_leaveC (v := .tuple #[.agg #[.int .i64 (-1), .int .i64 0, .bool false, .int .i64 0], .bool false]) rfl rfl Try.func143 (fun d => ?_) ?_
    · unfold results
      go_simp
    · replace F6 := Keep.out F6
      replace hold6 := Keep.out hold6
      replace hno := Keep.out hno
      replace H := Keep.out H
      replace z6 := Keep.out z6
      refine H _ _ _ ⟨rfl, by omega, hold6, .inr ⟨fun x hx => ?_, rfl, F6⟩⟩
      -- every number below n is (f + j) mod n for a j below n
      obtain ⟨j', hj1, hj2⟩ : ∃ j', j' < i ∧ (f + j') % i = x := by
        by_cases e2 : f ≤ x
        · exact ⟨x - f, by omega, by rw [show f + (x - f) = x by omega, Nat.mod_eq_of_lt hx]⟩
        · exact ⟨x + i - f, by omega, by rw [show f + (x + i - f) = x + i by omega, Nat.add_mod_right, Nat.mod_eq_of_lt hx]⟩
      rw [← hj2]
      exact hno j' hj1
end Go.Proofs.Ytcibnfjpagmdaaa
