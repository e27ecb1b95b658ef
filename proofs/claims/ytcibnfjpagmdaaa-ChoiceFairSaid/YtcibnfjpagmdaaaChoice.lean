/- Choices, one goroutine alone. -/
import Derived.Test.YtcibnfjpagmdaaaPipeQ
import Derived.LaidEqlPtr
import Derived.Lib.Builder
set_option linter.unusedSimpArgs false
set_option linter.unusedVariables false
set_option maxRecDepth 100000
set_option maxHeartbeats 4000000
namespace Go.Proofs.Ytcibnfjpagmdaaa
open Go.TX Go.Conc Go.RowKit Go.MapKept
variable {J : Judge Try.prog} {σ : Cfg} {w : World}

/-- Memory has grown; what was there stands. -/
structure Grew (w w' : World) : Prop where
  size : w.heap.size ≤ w'.heap.size
  old : ∀ c, c < w.heap.size → w'.heap[c]? = w.heap[c]?
theorem Grew.refl (w : World) : Grew w w := ⟨Nat.le_refl _, fun _ _ => rfl⟩
theorem Grew.trans {a b c : World} (h : Grew a b) (g : Grew b c) : Grew a c := ⟨Nat.le_trans h.size g.size, fun k hk => (g.old k (Nat.lt_of_lt_of_le hk h.size)).trans (h.old k hk)⟩
theorem Grew.newO {a b c : World} {o : Obj} (h : Grew a b) (g : NewO b c o) : Grew a c := h.trans ⟨by have := g.size; omega, g.old⟩
theorem Grew.cell {w' : World} (h : Grew w w') {ad : Addr} {v : Value} (hc : w.cell? ad = some v) : w'.cell? ad = some v := (cell?_of_block (h.old _ (lt_of_cell hc))).trans hc

theorem info_cell : ∃ j, Try.prog.info? 81 = some j ∧ j.size ≠ 0 := by
  have h : (Try.prog.info? 81).map (fun i => decide (i.size = 0)) = some false := by kernel_rfl
  obtain ⟨j, h1, h2⟩ := Option.map_eq_some_iff.1 h
  exact ⟨j, h1, by simpa using h2⟩
theorem neq_cells {a b : Nat} {u v : Int} (ha : CellIs w a u) (hb : CellIs w b v) (d : Nat) : (binOp .neq 29 (.pointer (some ⟨a, 0, none⟩)) (.pointer (some ⟨b, 0, none⟩))).run Try.prog (w.at d) = .ok (.bool (decide (a ≠ b))) (w.at d) := by
  obtain ⟨j, h1, h2⟩ := info_cell
  by_cases e : a = b
  · subst e
    rw [Go.Lib.run_neq_ptr_same (w.at d) _ Try.underlying29 h1]; simp
  · have := run_sameAddr_other (P := Try.prog) (w.at d) (a := ⟨a, 0, none⟩) (b := ⟨b, 0, none⟩) (by simp [e]) ha hb
    have h : ∀ x : Nat, (Op.equalIn (x + 1) 29 (.pointer (some ⟨a, 0, none⟩)) (.pointer (some ⟨b, 0, none⟩))).run Try.prog (w.at d) = .ok false (w.at d) := fun x => by
      simp [Op.equalIn, run_underlying Try.underlying29, sizeOf, typeInfo, h1, h2, this]
    simp only [binOp]
    simp [Op.equal, Op.maxDepth, h 9999, e]

/-- What a pipe (or what stands for one) answers when it is asked for its bell. -/
inductive BellIs (w : World) : Value → Option Nat → Prop
  | nil : BellIs w (.pointer none) none
  | bare (p : Nat) (h : w.cell? ⟨p, 0, none⟩ = some (.pointer none)) : BellIs w (.pointer (some ⟨p, 0, none⟩)) none
  | made (p : Nat) (x : Addr) (bell : Nat) (d : Int) (h : w.cell? ⟨p, 0, none⟩ = some (.pointer (some x))) (h2 : w.cell? ⟨p, 2, none⟩ = some (.pointer (some ⟨bell, 0, none⟩))) (h3 : CellIs w bell d) : BellIs w (.pointer (some ⟨p, 0, none⟩)) (some bell)
theorem BellIs.grew {w' : World} {v : Value} {b : Option Nat} (h : BellIs w v b) (g : Grew w w') : BellIs w' v b := by
  cases h with
  | nil => exact .nil
  | bare p h => exact .bare p (g.cell h)
  | made p x bell d h h2 h3 => exact .made p x bell d (g.cell h) (g.cell h2) (h3.later (g.old _ h3.lt))
theorem bell_of {v : Value} {b : Option Nat} (h : BellIs w v b) : CallsX J 104 #[v] σ w fun r σ' w' => r = .pointer (b.map fun x => ⟨x, 0, none⟩) ∧ σ' = σ ∧ w' = w := by
  cases h with
  | nil => exact pipe_bell_nil
  | bare p h => exact pipe_bell_bare p h
  | made p x bell d h h2 h3 => exact pipe_bell p x _ h h2

theorem BellIs.ptr {v : Value} {b : Option Nat} (h : BellIs w v b) : ∃ x, v = .pointer x := by cases h <;> exact ⟨_, rfl⟩

/-- A list of cases in memory. -/
structure Cases (w : World) (l cap : Nat) (cs : List (Value × Bool × Int)) : Prop where
  pipe : ∀ x c, cs[x]? = some c → w.cell? ⟨l, x * 3, none⟩ = some c.1
  send : ∀ x c, cs[x]? = some c → w.cell? ⟨l, x * 3 + 1, none⟩ = some (.bool c.2.1)
  val : ∀ x c, cs[x]? = some c → w.cell? ⟨l, x * 3 + 2, none⟩ = some (.int .i64 c.2.2)
theorem Cases.grew {w' : World} {l cap : Nat} {cs : List (Value × Bool × Int)} (h : Cases w l cap cs) (g : Grew w w') : Cases w' l cap cs := ⟨fun x c e => g.cell (h.pipe x c e), fun x c e => g.cell (h.send x c e), fun x c e => g.cell (h.val x c e)⟩

def refCode (bell : Nat) (bs : List (Option Nat)) : Int := if none ∈ bs then 2 else if bs = [] then 25 else if ∃ b ∈ bs, b ≠ some bell then 1 else 0

theorem refused_nil (l : Value) : CallsX J 142 #[.pointer none, l] σ w fun r σ' w' => r = .int .i64 2 ∧ σ' = σ ∧ w' = w := by
  refine callsX_body Try.func142 rfl fun c cs H HN => ?_
  simp only [Try.f142, Try.ntmps142, List.size_toArray, List.length_cons, List.length_nil, Nat.reduceAdd, Nat.reduceSub, Nat.zero_add, Array.replicate_succ, Array.replicate_zero, List.push_toArray, List.append_toArray, List.nil_append, List.cons_append, List.append_nil]
  repeat (first
    | refine y_seq ?_
    | (refine y_region ?_; simp only [List.size_toArray, List.length_cons, List.length_nil, Nat.reduceAdd, Nat.zero_add, List.range, List.range.loop])
    | refine y_regionEnd ?_
    | (refine y_nw rfl (by rfl) rfl (by first | exact nx_of rfl | exact nx_nil rfl rfl | exact nx_int rfl rfl rfl) (fun dd hS K hK => ?_); go_simp; refine hK _ _ _ ?_; clear hK K hS dd; simp only [recOf]; try walk_nrm)
    | (refine y_unwanted rfl (by rfl) ?_; try walk_nrm)
    | (refine y_cond true rfl ?_; simp only [if_true])
    | (refine y_cond false rfl ?_; simp only [Bool.false_eq_true, if_false])
    | refine y_skip ?_ | refine y_block ?_ | refine y_inBlock ?_ | refine y_label ?_ | refine y_exit rfl ?_ | refine y_ret ?_ | refine y_end ?_ | refine y_scope ?_ | refine y_inScope ?_)
  refine y_leave rfl rfl Try.func142 (resultsC_tmp rfl _) ?_
  exact H _ _ _ ⟨rfl, rfl, rfl⟩
theorem refused_bare (b : Nat) (l : Value) (h : w.cell? ⟨b, 0, none⟩ = some (.pointer none)) : CallsX J 142 #[.pointer (some ⟨b, 0, none⟩), l] σ w fun r σ' w' => r = .int .i64 2 ∧ σ' = σ ∧ w' = w := by
  refine callsX_body Try.func142 rfl fun c cs H HN => ?_
  simp only [Try.f142, Try.ntmps142, List.size_toArray, List.length_cons, List.length_nil, Nat.reduceAdd, Nat.reduceSub, Nat.zero_add, Array.replicate_succ, Array.replicate_zero, List.push_toArray, List.append_toArray, List.nil_append, List.cons_append, List.append_nil]
  repeat (first
    | refine y_seq ?_
    | (refine y_region ?_; simp only [List.size_toArray, List.length_cons, List.length_nil, Nat.reduceAdd, Nat.zero_add, List.range, List.range.loop])
    | refine y_regionEnd ?_
    | (refine y_nw rfl (by rfl) rfl (by first | exact nx_of rfl | exact nx_nil rfl rfl | exact nx_int rfl rfl rfl) (fun dd hS K hK => ?_); go_simp; refine hK _ _ _ ?_; clear hK K hS dd; simp only [recOf]; try walk_nrm)
    | (refine y_unwanted rfl (by rfl) ?_; try walk_nrm)
    | (refine y_cond true rfl ?_; simp only [if_true])
    | (refine y_cond false rfl ?_; simp only [Bool.false_eq_true, if_false])
    | refine y_skip ?_ | refine y_block ?_ | refine y_inBlock ?_ | refine y_label ?_ | refine y_exit rfl ?_ | refine y_ret ?_ | refine y_end ?_ | refine y_scope ?_ | refine y_inScope ?_)
  refine y_leave rfl rfl Try.func142 (resultsC_tmp rfl _) ?_
  exact H _ _ _ ⟨rfl, rfl, rfl⟩
theorem refused_empty (b : Nat) (bell : Addr) (h : w.cell? ⟨b, 0, none⟩ = some (.pointer (some bell))) : CallsX J 142 #[.pointer (some ⟨b, 0, none⟩), .slice none 0 0] σ w fun r σ' w' => r = .int .i64 25 ∧ σ' = σ ∧ w' = w := by
  refine callsX_body Try.func142 rfl fun c cs H HN => ?_
  simp only [Try.f142, Try.ntmps142, List.size_toArray, List.length_cons, List.length_nil, Nat.reduceAdd, Nat.reduceSub, Nat.zero_add, Array.replicate_succ, Array.replicate_zero, List.push_toArray, List.append_toArray, List.nil_append, List.cons_append, List.append_nil]
  repeat (first
    | refine y_seq ?_
    | (refine y_region ?_; simp only [List.size_toArray, List.length_cons, List.length_nil, Nat.reduceAdd, Nat.zero_add, List.range, List.range.loop])
    | refine y_regionEnd ?_
    | (refine y_nw rfl (by rfl) rfl (by first | exact nx_of rfl | exact nx_nil rfl rfl | exact nx_int rfl rfl rfl) (fun dd hS K hK => ?_); go_simp; refine hK _ _ _ ?_; clear hK K hS dd; simp only [recOf]; try walk_nrm)
    | (refine y_unwanted rfl (by rfl) ?_; try walk_nrm)
    | (refine y_cond true rfl ?_; simp only [if_true])
    | (refine y_cond false rfl ?_; simp only [Bool.false_eq_true, if_false])
    | refine y_skip ?_ | refine y_block ?_ | refine y_inBlock ?_ | refine y_label ?_ | refine y_exit rfl ?_ | refine y_ret ?_ | refine y_end ?_ | refine y_scope ?_ | refine y_inScope ?_)
  refine y_loop ?_
  repeat (first
    | refine y_seq ?_
    | (refine y_region ?_; simp only [List.size_toArray, List.length_cons, List.length_nil, Nat.reduceAdd, Nat.zero_add, List.range, List.range.loop])
    | refine y_regionEnd ?_
    | (refine y_nw rfl (by rfl) rfl (by first | exact nx_of rfl | exact nx_nil rfl rfl | exact nx_int rfl rfl rfl) (fun dd hS K hK => ?_); go_simp; refine hK _ _ _ ?_; clear hK K hS dd; simp only [recOf]; try walk_nrm)
    | (refine y_unwanted rfl (by rfl) ?_; try walk_nrm)
    | (refine y_cond true rfl ?_; simp only [if_true])
    | (refine y_cond false rfl ?_; simp only [Bool.false_eq_true, if_false])
    | refine y_skip ?_ | refine y_block ?_ | refine y_inBlock ?_ | refine y_label ?_ | refine y_exit rfl ?_ | refine y_ret ?_ | refine y_end ?_ | refine y_scope ?_ | refine y_inScope ?_)
  refine y_leave rfl rfl Try.func142 (resultsC_tmp rfl _) ?_
  exact H _ _ _ ⟨rfl, rfl, rfl⟩

theorem refused_list (b l cap bell : Nat) {dd : Int} (cs0 : List (Value × Bool × Int)) (bs : List (Option Nat)) (hb : w.cell? ⟨b, 0, none⟩ = some (.pointer (some ⟨bell, 0, none⟩))) (hbell : CellIs w bell dd) (hl : Cases w l cap cs0) (hbl : bs.length = cs0.length) (hn : 0 < cs0.length) (hmax : cs0.length < 2 ^ 40)
    (hB : ∀ (x : Nat) (c : Value × Bool × Int) d, cs0[x]? = some c → bs[x]? = some d → BellIs w c.1 d) : CallsX J 142 #[.pointer (some ⟨b, 0, none⟩), .slice (some ⟨l, 0, none⟩) cs0.length cap] σ w fun r σ' w' => r = .int .i64 (refCode bell bs) ∧ σ' = σ ∧ Grew w w' := by
  generalize hN : cs0.length = n at *
  refine callsX_body Try.func142 rfl fun c cs H HN => ?_
  simp only [Try.f142, Try.ntmps142, List.size_toArray, List.length_cons, List.length_nil, Nat.reduceAdd, Nat.reduceSub, Nat.zero_add, Array.replicate_succ, Array.replicate_zero, List.push_toArray, List.append_toArray, List.nil_append, List.cons_append, List.append_nil]
  refine J.snd _ _ _ fun hS => ?_
  have hfr : ∀ b, w.heap.size ≤ b → σ.Free (· = b) := fun b hb => free_fresh hS hb
  repeat (first
    | refine y_seq ?_
    | (refine y_region ?_; simp only [List.size_toArray, List.length_cons, List.length_nil, Nat.reduceAdd, Nat.zero_add, List.range, List.range.loop])
    | refine y_regionEnd ?_
    | (refine y_nw rfl (by rfl) rfl (by first | exact nx_of rfl | exact nx_nil rfl rfl | exact nx_int rfl rfl rfl) (fun dd hS K hK => ?_); go_simp; refine hK _ _ _ ?_; clear hK K hS dd; simp only [recOf]; try walk_nrm)
    | (refine y_unwanted rfl (by rfl) ?_; try walk_nrm)
    | (refine y_cond true rfl ?_; simp only [if_true])
    | (refine y_cond false rfl ?_; simp only [Bool.false_eq_true, if_false])
    | refine y_skip ?_ | refine y_block ?_ | refine y_inBlock ?_ | refine y_label ?_ | refine y_exit rfl ?_ | refine y_ret ?_ | refine y_end ?_ | refine y_scope ?_ | refine y_inScope ?_)
  -- the first round: a pipe without a bell
  refine y_loopI (fun k a σ' w' => σ' = σ ∧ ∃ m : Nat, k = n - m ∧ m ≤ n ∧ Grew w w' ∧ (∀ x d, x < m → bs[x]? = some d → d ≠ none) ∧ ∃ j2 j3 j5 j6 j7 j8 j9 j10 j11 j12 j13 j14 j15 j16 j17 j21 j22 j23 j24 j25 j26 j27 j28 j29 j30 j31 j32 j33 j34 j35 j36 j37 j38 j39 j40 j41 j42 j43 j44 j45 j46, a = ⟨#[.pointer (some ⟨b, 0, none⟩), .slice (some ⟨l, 0, none⟩) n cap, j2, j3, .int .i64 0, j5, j6, j7, j8, j9, j10, j11, j12, j13, j14, j15, j16, j17, .slice (some ⟨l, 0, none⟩) n cap, .int .i64 n, .int .i64 (m : Int), j21, j22, j23, j24, j25, j26, j27, j28, j29, j30, j31, j32, j33, j34, j35, j36, j37, j38, j39, j40, j41, j42, j43, j44, j45, j46], []⟩) n ⟨rfl, 0, by omega, by omega, Grew.refl w, fun x d hx => by omega, _, _, _, _, _, _, _, _, _, _, _, _, _, _, _, _, _, _, _, _, _, _, _, _, _, _, _, _, _, _, _, _, _, _, _, _, _, _, _, _, _, rfl⟩ ?_
  rintro k IH _ _ w1 ⟨rfl, m, hk, hm, g1, hno, j2, j3, j5, j6, j7, j8, j9, j10, j11, j12, j13, j14, j15, j16, j17, j21, j22, j23, j24, j25, j26, j27, j28, j29, j30, j31, j32, j33, j34, j35, j36, j37, j38, j39, j40, j41, j42, j43, j44, j45, j46, rfl⟩
  by_cases e : m < n
  · have e1 : (m : Int) < n := by omega
    have e2 : (0 : Int) ≤ m := by omega
    obtain ⟨c0, hc0⟩ : ∃ c0, cs0[m]? = some c0 := ⟨_, List.getElem?_eq_getElem (by omega)⟩
    obtain ⟨d0, hd0⟩ : ∃ d0, bs[m]? = some d0 := ⟨_, List.getElem?_eq_getElem (by omega)⟩
    obtain ⟨pv, sd, va⟩ := c0
    have l1 := g1.cell (hl.pipe m _ hc0)
    have l2 := g1.cell (hl.send m _ hc0)
    have l3 := g1.cell (hl.val m _ hc0)
    have B := (hB m _ _ hc0 hd0).grew g1
    simp only at l1 l2 l3 B
    obtain ⟨px, rfl⟩ := B.ptr
    repeat (first
      | refine y_seq ?_
      | (refine y_region ?_; simp only [List.size_toArray, List.length_cons, List.length_nil, Nat.reduceAdd, Nat.zero_add, List.range, List.range.loop])
      | refine y_regionEnd ?_
      | (refine y_nw rfl (by rfl) rfl (by first | exact nx_of rfl | exact nx_nil rfl rfl | exact nx_int rfl rfl rfl) (fun dd hS K hK => ?_); go_simp; refine hK _ _ _ ?_; clear hK K hS dd; simp only [recOf]; try walk_nrm)
      | (refine y_unwanted rfl (by rfl) ?_; try walk_nrm)
      | (refine y_cond true rfl ?_; simp only [if_true])
      | (refine y_cond false rfl ?_; simp only [Bool.false_eq_true, if_false])
      | refine y_skip ?_ | refine y_block ?_ | refine y_inBlock ?_ | refine y_label ?_ | refine y_exit rfl ?_ | refine y_ret ?_ | refine y_end ?_ | refine y_scope ?_ | refine y_inScope ?_)
    have ha : (w1.alloc (.cells #[.pointer none, .bool false, .int .i64 0] 92)).cell? ⟨w1.heap.size, 0, none⟩ = some (.pointer none) := by unfold World.cell?; rw [(heap_alloc w1 _).1]; rfl
    (refine y_store rfl (by rfl) rfl rfl rfl ha (hfr _ g1.size) (fun dd hS K hK => ?_); go_simp; refine hK _ _ _ ?_; clear hK K hS dd; simp only [recOf]; try walk_nrm)
    have N1 := newO w1 (.cells #[.pointer px, .bool sd, .int .i64 va] 92)
    generalize w1.alloc (.cells #[.pointer px, .bool sd, .int .i64 va] 92) = w2 at N1 ⊢
    have g2 := g1.newO N1
    have c2 : w2.cell? ⟨w1.heap.size, 0, none⟩ = some (.pointer px) := by unfold World.cell?; rw [N1.is]; rfl
    clear ha
    repeat (first
      | refine y_seq ?_
      | (refine y_region ?_; simp only [List.size_toArray, List.length_cons, List.length_nil, Nat.reduceAdd, Nat.zero_add, List.range, List.range.loop])
      | refine y_regionEnd ?_
      | (refine y_nw rfl (by rfl) rfl (by first | exact nx_of rfl | exact nx_nil rfl rfl | exact nx_int rfl rfl rfl) (fun dd hS K hK => ?_); go_simp; refine hK _ _ _ ?_; clear hK K hS dd; simp only [recOf]; try walk_nrm)
      | (refine y_unwanted rfl (by rfl) ?_; try walk_nrm)
      | (refine y_cond true rfl ?_; simp only [if_true])
      | (refine y_cond false rfl ?_; simp only [Bool.false_eq_true, if_false])
      | refine y_skip ?_ | refine y_block ?_ | refine y_inBlock ?_ | refine y_label ?_ | refine y_exit rfl ?_ | refine y_ret ?_ | refine y_end ?_ | refine y_scope ?_ | refine y_inScope ?_)
    refine y_callR rfl (by rfl) rfl rfl Try.func104 (by kernel_rfl) (by kernel_rfl) (bell_of (B.grew ((Grew.refl w1).newO N1))) (by simp only [List.map_toArray, List.map_cons, List.map_nil] <;> rfl) ?_
    rintro _ σ'' w'' ⟨rfl, e3, e4⟩
    rw [e3, e4]
    clear e3 e4 w'' σ''
    walk_nrm
    cases d0 with
    | none =>
      simp only [Option.map_none]
      repeat (first
        | refine y_seq ?_
        | (refine y_region ?_; simp only [List.size_toArray, List.length_cons, List.length_nil, Nat.reduceAdd, Nat.zero_add, List.range, List.range.loop])
        | refine y_regionEnd ?_
        | (refine y_nw rfl (by rfl) rfl (by first | exact nx_of rfl | exact nx_nil rfl rfl | exact nx_int rfl rfl rfl) (fun dd hS K hK => ?_); go_simp; refine hK _ _ _ ?_; clear hK K hS dd; simp only [recOf]; try walk_nrm)
        | (refine y_unwanted rfl (by rfl) ?_; try walk_nrm)
        | (refine y_cond true rfl ?_; simp only [if_true])
        | (refine y_cond false rfl ?_; simp only [Bool.false_eq_true, if_false])
        | refine y_skip ?_ | refine y_block ?_ | refine y_inBlock ?_ | refine y_label ?_ | refine y_exit rfl ?_ | refine y_ret ?_ | refine y_end ?_ | refine y_scope ?_ | refine y_inScope ?_)
      refine y_leave rfl rfl Try.func142 (resultsC_tmp rfl _) ?_
      refine H _ _ _ ⟨?_, rfl, g2⟩
      have : none ∈ bs := List.mem_iff_getElem?.2 ⟨m, hd0⟩
      simp [refCode, this]
    | some bd =>
      simp only [Option.map_some]
      repeat (first
        | refine y_seq ?_
        | (refine y_region ?_; simp only [List.size_toArray, List.length_cons, List.length_nil, Nat.reduceAdd, Nat.zero_add, List.range, List.range.loop])
        | refine y_regionEnd ?_
        | (refine y_nw rfl (by rfl) rfl (by first | exact nx_of rfl | exact nx_nil rfl rfl | exact nx_int rfl rfl rfl) (fun dd hS K hK => ?_); go_simp; refine hK _ _ _ ?_; clear hK K hS dd; simp only [recOf]; try walk_nrm)
        | (refine y_unwanted rfl (by rfl) ?_; try walk_nrm)
        | (refine y_cond true rfl ?_; simp only [if_true])
        | (refine y_cond false rfl ?_; simp only [Bool.false_eq_true, if_false])
        | refine y_skip ?_ | refine y_block ?_ | refine y_inBlock ?_ | refine y_label ?_ | refine y_exit rfl ?_ | refine y_ret ?_ | refine y_end ?_ | refine y_scope ?_ | refine y_inScope ?_)
      rw [wrap_small (by omega) (by omega), show (m : Int) + 1 = ((m + 1 : Nat) : Int) by omega]
      refine IH (n - (m + 1)) _ _ _ (by omega) ⟨rfl, m + 1, rfl, by omega, g2, fun x d hx hd => ?_, _, _, _, _, _, _, _, _, _, _, _, _, _, _, _, _, _, _, _, _, _, _, _, _, _, _, _, _, _, _, _, _, _, _, _, _, _, _, _, _, _, rfl⟩
      by_cases e3 : x = m
      · subst e3; rw [hd0] at hd; cases hd; simp
      · exact hno x d (by omega) hd
  · obtain rfl : m = n := by omega
    have e1 : ¬ ((m : Int) < m) := by omega
    have e2 : ((m : Int) == 0) = false := by simp; omega
    repeat (first
      | refine y_seq ?_
      | (refine y_region ?_; simp only [List.size_toArray, List.length_cons, List.length_nil, Nat.reduceAdd, Nat.zero_add, List.range, List.range.loop])
      | refine y_regionEnd ?_
      | (refine y_nw rfl (by rfl) rfl (by first | exact nx_of rfl | exact nx_nil rfl rfl | exact nx_int rfl rfl rfl) (fun dd hS K hK => ?_); go_simp; refine hK _ _ _ ?_; clear hK K hS dd; simp only [recOf]; try walk_nrm)
      | (refine y_unwanted rfl (by rfl) ?_; try walk_nrm)
      | (refine y_cond true rfl ?_; simp only [if_true])
      | (refine y_cond false rfl ?_; simp only [Bool.false_eq_true, if_false])
      | refine y_skip ?_ | refine y_block ?_ | refine y_inBlock ?_ | refine y_label ?_ | refine y_exit rfl ?_ | refine y_ret ?_ | refine y_end ?_ | refine y_scope ?_ | refine y_inScope ?_)
    have hall : ∀ (x : Nat) d, bs[x]? = some d → d ≠ none := fun x d hd => hno x d (by have := (List.getElem?_eq_some_iff.1 hd).1; omega) hd
    clear IH hno
    -- the second round: a pipe with another bell
    refine y_loopI (fun k a σ' w' => σ' = σ' ∧ σ' = _ ∧ ∃ i : Nat, k = m - i ∧ i ≤ m ∧ Grew w w' ∧ (∀ x d, x < i → bs[x]? = some d → d = some bell) ∧ ∃ j2 j3 j5 j6 j7 j8 j9 j10 j11 j12 j13 j14 j15 j16 j17 j18 j19 j20 j21 j22 j23 j24 j25 j26 j27 j28 j29 j30 j31 j35 j36 j37 j38 j39 j40 j41 j42 j43 j44 j45 j46, a = ⟨#[.pointer (some ⟨b, 0, none⟩), .slice (some ⟨l, 0, none⟩) m cap, j2, j3, .int .i64 0, j5, j6, j7, j8, j9, j10, j11, j12, j13, j14, j15, j16, j17, j18, j19, j20, j21, j22, j23, j24, j25, j26, j27, j28, j29, j30, j31, .slice (some ⟨l, 0, none⟩) m cap, .int .i64 m, .int .i64 (i : Int), j35, j36, j37, j38, j39, j40, j41, j42, j43, j44, j45, j46], []⟩) m ⟨rfl, rfl, 0, by omega, by omega, g1, fun x d hx => by omega, _, _, _, _, _, _, _, _, _, _, _, _, _, _, _, _, _, _, _, _, _, _, _, _, _, _, _, _, _, _, _, _, _, _, _, _, _, _, _, _, _, rfl⟩ ?_
    rintro k IH _ _ w1 ⟨_, rfl, i, hk, hi, g1, hno, j2, j3, j5, j6, j7, j8, j9, j10, j11, j12, j13, j14, j15, j16, j17, j18, j19, j20, j21, j22, j23, j24, j25, j26, j27, j28, j29, j30, j31, j35, j36, j37, j38, j39, j40, j41, j42, j43, j44, j45, j46, rfl⟩
    by_cases e : i < m
    · have e1 : (i : Int) < m := by omega
      have e2 : (0 : Int) ≤ i := by omega
      obtain ⟨c0, hc0⟩ : ∃ c0, cs0[i]? = some c0 := ⟨_, List.getElem?_eq_getElem (by omega)⟩
      obtain ⟨d0, hd0⟩ : ∃ d0, bs[i]? = some d0 := ⟨_, List.getElem?_eq_getElem (by omega)⟩
      obtain ⟨pv, sd, va⟩ := c0
      have l1 := g1.cell (hl.pipe i _ hc0)
      have l2 := g1.cell (hl.send i _ hc0)
      have l3 := g1.cell (hl.val i _ hc0)
      have B := (hB i _ _ hc0 hd0).grew g1
      simp only at l1 l2 l3 B
      obtain ⟨px, rfl⟩ := B.ptr
      repeat (first
        | refine y_seq ?_
        | (refine y_region ?_; simp only [List.size_toArray, List.length_cons, List.length_nil, Nat.reduceAdd, Nat.zero_add, List.range, List.range.loop])
        | refine y_regionEnd ?_
        | (refine y_nw rfl (by rfl) rfl (by first | exact nx_of rfl | exact nx_nil rfl rfl | exact nx_int rfl rfl rfl) (fun dd hS K hK => ?_); go_simp; refine hK _ _ _ ?_; clear hK K hS dd; simp only [recOf]; try walk_nrm)
        | (refine y_unwanted rfl (by rfl) ?_; try walk_nrm)
        | (refine y_cond true rfl ?_; simp only [if_true])
        | (refine y_cond false rfl ?_; simp only [Bool.false_eq_true, if_false])
        | refine y_skip ?_ | refine y_block ?_ | refine y_inBlock ?_ | refine y_label ?_ | refine y_exit rfl ?_ | refine y_ret ?_ | refine y_end ?_ | refine y_scope ?_ | refine y_inScope ?_)
      have ha : (w1.alloc (.cells #[.pointer none, .bool false, .int .i64 0] 92)).cell? ⟨w1.heap.size, 0, none⟩ = some (.pointer none) := by unfold World.cell?; rw [(heap_alloc w1 _).1]; rfl
      (refine y_store rfl (by rfl) rfl rfl rfl ha (hfr _ g1.size) (fun dd hS K hK => ?_); go_simp; refine hK _ _ _ ?_; clear hK K hS dd; simp only [recOf]; try walk_nrm)
      have N1 := newO w1 (.cells #[.pointer px, .bool sd, .int .i64 va] 92)
      generalize w1.alloc (.cells #[.pointer px, .bool sd, .int .i64 va] 92) = w2 at N1 ⊢
      have g2 := g1.newO N1
      have c2 : w2.cell? ⟨w1.heap.size, 0, none⟩ = some (.pointer px) := by unfold World.cell?; rw [N1.is]; rfl
      have hb2 := g2.cell hb
      clear ha
      repeat (first
        | refine y_seq ?_
        | (refine y_region ?_; simp only [List.size_toArray, List.length_cons, List.length_nil, Nat.reduceAdd, Nat.zero_add, List.range, List.range.loop])
        | refine y_regionEnd ?_
        | (refine y_nw rfl (by rfl) rfl (by first | exact nx_of rfl | exact nx_nil rfl rfl | exact nx_int rfl rfl rfl) (fun dd hS K hK => ?_); go_simp; refine hK _ _ _ ?_; clear hK K hS dd; simp only [recOf]; try walk_nrm)
        | (refine y_unwanted rfl (by rfl) ?_; try walk_nrm)
        | (refine y_cond true rfl ?_; simp only [if_true])
        | (refine y_cond false rfl ?_; simp only [Bool.false_eq_true, if_false])
        | refine y_skip ?_ | refine y_block ?_ | refine y_inBlock ?_ | refine y_label ?_ | refine y_exit rfl ?_ | refine y_ret ?_ | refine y_end ?_ | refine y_scope ?_ | refine y_inScope ?_)
      refine y_drawnQ (fun _ w' => w'.cell? ⟨w1.heap.size, 0, none⟩ = some (.pointer px) ∧ w'.cell? ⟨b, 0, none⟩ = some (.pointer (some ⟨bell, 0, none⟩))) (fun _ => false) (by kernel_rfl) rfl ?_
      simp only [List.size_toArray, List.length_cons, List.length_nil, Nat.reduceAdd, Nat.reduceSub, Nat.zero_add, Array.replicate_succ, Array.replicate_zero, List.push_toArray, List.append_toArray, List.nil_append, List.cons_append, List.append_nil]
      first | (apply anyX_takeW (i := 0) rfl; (focus rfl); (focus (first | exact nx_of rfl | exact nx_nil rfl rfl | exact nx_int rfl rfl rfl)); (focus (rintro σ' w' ⟨s1, s2⟩ d K hK; go_simp; exact hK)); (focus kernel_rfl); (focus kernel_rfl); (focus kernel_rfl); (focus kernel_rfl); (focus (exact ⟨c2, hb2⟩))) | (refine anyX_takeU (i := 0) rfl rfl (by kernel_rfl) (by kernel_rfl) (by kernel_rfl) (by kernel_rfl) (by exact ⟨c2, hb2⟩) ?_)
      try walk_nrm
      first | (apply anyX_takeW (i := 1) rfl; (focus rfl); (focus (first | exact nx_of rfl | exact nx_nil rfl rfl | exact nx_int rfl rfl rfl)); (focus (rintro σ' w' ⟨s1, s2⟩ d K hK; go_simp; exact hK)); (focus kernel_rfl); (focus kernel_rfl); (focus kernel_rfl); (focus kernel_rfl); (focus (exact ⟨c2, hb2⟩))) | (refine anyX_takeU (i := 1) rfl rfl (by kernel_rfl) (by kernel_rfl) (by kernel_rfl) (by kernel_rfl) (by exact ⟨c2, hb2⟩) ?_)
      try walk_nrm
      first | (apply anyX_takeW (i := 3) rfl; (focus rfl); (focus (first | exact nx_of rfl | exact nx_nil rfl rfl | exact nx_int rfl rfl rfl)); (focus (rintro σ' w' ⟨s1, s2⟩ d K hK; go_simp; exact hK)); (focus kernel_rfl); (focus kernel_rfl); (focus kernel_rfl); (focus kernel_rfl); (focus (exact ⟨c2, hb2⟩))) | (refine anyX_takeU (i := 3) rfl rfl (by kernel_rfl) (by kernel_rfl) (by kernel_rfl) (by kernel_rfl) (by exact ⟨c2, hb2⟩) ?_)
      try walk_nrm
      first | (apply anyX_takeW (i := 4) rfl; (focus rfl); (focus (first | exact nx_of rfl | exact nx_nil rfl rfl | exact nx_int rfl rfl rfl)); (focus (rintro σ' w' ⟨s1, s2⟩ d K hK; go_simp; exact hK)); (focus kernel_rfl); (focus kernel_rfl); (focus kernel_rfl); (focus kernel_rfl); (focus (exact ⟨c2, hb2⟩))) | (refine anyX_takeU (i := 4) rfl rfl (by kernel_rfl) (by kernel_rfl) (by kernel_rfl) (by kernel_rfl) (by exact ⟨c2, hb2⟩) ?_)
      try walk_nrm
      first | (apply anyX_takeW (i := 5) rfl; (focus rfl); (focus (first | exact nx_of rfl | exact nx_nil rfl rfl | exact nx_int rfl rfl rfl)); (focus (rintro σ' w' ⟨s1, s2⟩ d K hK; go_simp; exact hK)); (focus kernel_rfl); (focus kernel_rfl); (focus kernel_rfl); (focus kernel_rfl); (focus (exact ⟨c2, hb2⟩))) | (refine anyX_takeU (i := 5) rfl rfl (by kernel_rfl) (by kernel_rfl) (by kernel_rfl) (by kernel_rfl) (by exact ⟨c2, hb2⟩) ?_)
      try walk_nrm
      first | (apply anyX_takeW (i := 6) rfl; (focus rfl); (focus (first | exact nx_of rfl | exact nx_nil rfl rfl | exact nx_int rfl rfl rfl)); (focus (rintro σ' w' ⟨s1, s2⟩ d K hK; go_simp; exact hK)); (focus kernel_rfl); (focus kernel_rfl); (focus kernel_rfl); (focus kernel_rfl); (focus (exact ⟨c2, hb2⟩))) | (refine anyX_takeU (i := 6) rfl rfl (by kernel_rfl) (by kernel_rfl) (by kernel_rfl) (by kernel_rfl) (by exact ⟨c2, hb2⟩) ?_)
      try walk_nrm
      refine anyX_one (i := 2) (by kernel_rfl) (opX_call rfl (by rfl) rfl Try.func104 (by kernel_rfl) (by kernel_rfl) (bell_of (B.grew ((Grew.refl w1).newO N1))) (by simp only [List.map_toArray, List.map_cons, List.map_nil]; rfl) ?_)
      rintro _ σ'' w'' ⟨rfl, e3, e4⟩
      rw [e3, e4]
      clear e3 e4 w'' σ''
      refine ⟨fun _ => ⟨c2, hb2⟩, ?_⟩
      walk_nrm
      obtain ⟨bd, rfl⟩ : ∃ bd, d0 = some bd := by cases d0 with | none => exact absurd rfl (hall i _ hd0) | some bd => exact ⟨bd, rfl⟩
      simp only [Option.map_some]
      have hbd : ∃ u, CellIs w2 bd u := by
        have B2 := B.grew ((Grew.refl w1).newO N1)
        cases B2 with
        | made p x bell d h h2 h3 => exact ⟨d, h3⟩
      obtain ⟨u, hbd⟩ := hbd
      have hq := neq_cells hbd (hbell.later (g2.old _ hbell.lt))
      refine anyX_one (i := 7) (by kernel_rfl) (opX_nw rfl (by rfl) (by first | exact nx_of rfl | exact nx_nil rfl rfl | exact nx_int rfl rfl rfl) (fun dd hS K' hK' => ?_))
      go_simp
      refine hK' _ _ _ ?_
      clear hK' K' hS dd
      refine ⟨fun _ => ⟨c2, hb2⟩, ?_⟩
      try walk_nrm
      refine anyX_end (by kernel_rfl) ?_
      by_cases e3 : bd = bell
      · subst e3
        simp only [ne_eq, not_true_eq_false, decide_false]
        repeat (first
          | refine y_seq ?_
          | (refine y_region ?_; simp only [List.size_toArray, List.length_cons, List.length_nil, Nat.reduceAdd, Nat.zero_add, List.range, List.range.loop])
          | refine y_regionEnd ?_
          | (refine y_nw rfl (by rfl) rfl (by first | exact nx_of rfl | exact nx_nil rfl rfl | exact nx_int rfl rfl rfl) (fun dd hS K hK => ?_); go_simp; refine hK _ _ _ ?_; clear hK K hS dd; simp only [recOf]; try walk_nrm)
          | (refine y_unwanted rfl (by rfl) ?_; try walk_nrm)
          | (refine y_cond true rfl ?_; simp only [if_true])
          | (refine y_cond false rfl ?_; simp only [Bool.false_eq_true, if_false])
          | refine y_skip ?_ | refine y_block ?_ | refine y_inBlock ?_ | refine y_label ?_ | refine y_exit rfl ?_ | refine y_ret ?_ | refine y_end ?_ | refine y_scope ?_ | refine y_inScope ?_)
        rw [wrap_small (by omega) (by omega), show (i : Int) + 1 = ((i + 1 : Nat) : Int) by omega]
        refine IH (m - (i + 1)) _ _ _ (by omega) ⟨rfl, rfl, i + 1, rfl, by omega, g2, fun x d hx hd => ?_, _, _, _, _, _, _, _, _, _, _, _, _, _, _, _, _, _, _, _, _, _, _, _, _, _, _, _, _, _, _, _, _, _, _, _, _, _, _, _, _, _, rfl⟩
        by_cases e4 : x = i
        · subst e4; rw [hd0] at hd; cases hd; rfl
        · exact hno x d (by omega) hd
      · simp only [ne_eq, e3, not_false_eq_true, decide_true]
        repeat (first
          | refine y_seq ?_
          | (refine y_region ?_; simp only [List.size_toArray, List.length_cons, List.length_nil, Nat.reduceAdd, Nat.zero_add, List.range, List.range.loop])
          | refine y_regionEnd ?_
          | (refine y_nw rfl (by rfl) rfl (by first | exact nx_of rfl | exact nx_nil rfl rfl | exact nx_int rfl rfl rfl) (fun dd hS K hK => ?_); go_simp; refine hK _ _ _ ?_; clear hK K hS dd; simp only [recOf]; try walk_nrm)
          | (refine y_unwanted rfl (by rfl) ?_; try walk_nrm)
          | (refine y_cond true rfl ?_; simp only [if_true])
          | (refine y_cond false rfl ?_; simp only [Bool.false_eq_true, if_false])
          | refine y_skip ?_ | refine y_block ?_ | refine y_inBlock ?_ | refine y_label ?_ | refine y_exit rfl ?_ | refine y_ret ?_ | refine y_end ?_ | refine y_scope ?_ | refine y_inScope ?_)
        refine y_leave rfl rfl Try.func142 (resultsC_tmp rfl _) ?_
        refine H _ _ _ ⟨?_, rfl, g2⟩
        have h1 : none ∉ bs := fun h => by obtain ⟨x, hx⟩ := List.mem_iff_getElem?.1 h; exact hall x _ hx rfl
        have h2 : ¬ bs = [] := fun h => by rw [h] at hbl; simp at hbl; omega
        have h3 : ∃ d ∈ bs, d ≠ some bell := ⟨some bd, List.mem_iff_getElem?.2 ⟨i, hd0⟩, fun h => e3 (Option.some.inj h)⟩
        simp only [refCode, if_neg h1, if_neg h2, if_pos h3]
        rfl
    · obtain rfl : i = m := by omega
      have e1 : ¬ ((i : Int) < i) := by omega
      repeat (first
        | refine y_seq ?_
        | (refine y_region ?_; simp only [List.size_toArray, List.length_cons, List.length_nil, Nat.reduceAdd, Nat.zero_add, List.range, List.range.loop])
        | refine y_regionEnd ?_
        | (refine y_nw rfl (by rfl) rfl (by first | exact nx_of rfl | exact nx_nil rfl rfl | exact nx_int rfl rfl rfl) (fun dd hS K hK => ?_); go_simp; refine hK _ _ _ ?_; clear hK K hS dd; simp only [recOf]; try walk_nrm)
        | (refine y_unwanted rfl (by rfl) ?_; try walk_nrm)
        | (refine y_cond true rfl ?_; simp only [if_true])
        | (refine y_cond false rfl ?_; simp only [Bool.false_eq_true, if_false])
        | refine y_skip ?_ | refine y_block ?_ | refine y_inBlock ?_ | refine y_label ?_ | refine y_exit rfl ?_ | refine y_ret ?_ | refine y_end ?_ | refine y_scope ?_ | refine y_inScope ?_)
      refine y_leave rfl rfl Try.func142 (resultsC_tmp rfl _) ?_
      refine H _ _ _ ⟨?_, rfl, g1⟩
      have h1 : none ∉ bs := fun h => by obtain ⟨x, hx⟩ := List.mem_iff_getElem?.1 h; exact hall x _ hx rfl
      have h2 : ¬ bs = [] := fun h => by rw [h] at hbl; simp at hbl; omega
      have h3 : ¬ ∃ d ∈ bs, d ≠ some bell := fun ⟨d, h, hd⟩ => by obtain ⟨x, hx⟩ := List.mem_iff_getElem?.1 h; exact hd (hno x d (by have := (List.getElem?_eq_some_iff.1 hx).1; omega) hx)
      simp only [refCode, if_neg h1, if_neg h2, if_neg h3]
      rfl
end Go.Proofs.Ytcibnfjpagmdaaa
