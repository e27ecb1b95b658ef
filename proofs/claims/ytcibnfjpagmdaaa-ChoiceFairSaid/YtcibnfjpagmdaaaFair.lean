/- ChoiceFair. -/
import Derived.Test.YtcibnfjpagmdaaaFairP
import Derived.Test.YtcibnfjpagmdaaaTop
set_option linter.unusedSimpArgs false
set_option linter.unusedVariables false
set_option maxRecDepth 100000
set_option maxHeartbeats 4000000
namespace Go.Proofs.Ytcibnfjpagmdaaa
open Go.TX Go.Conc Go.RowKit Go.MapKept
variable {J : Judge Try.prog} {σ : Cfg} {w : World}

/-- All that the first loop holds. -/
structure Laying (w0 w : World) (r : Nat) (on : Nat → Bool) (n i : Nat) (S : Nat → Shape) (d : Int) (q : Nat → List Int) : Prop where
  old : ∀ k, k < w0.heap.size → w.heap[k]? = w0.heap[k]?
  fam : Fam w w0.heap.size d i S (fun _ => 0) q
  choice : ChIs w (w0.heap.size + 1 + 1) w0.heap.size (w0.heap.size + 1) 0
  row : Row w (w0.heap.size + 3) 4 n fun x => .bool (decide (x < i) && on x)
  room : ∀ x, x < i → (S x).n = 64
  new : ∀ x, x < i → ∀ b, InS (S x) b → w0.heap.size + 3 < b

/-- The list of cases, so far. -/
structure LRow (w0 w : World) (i : Nat) (S : Nat → Shape) (sv : Value) : Prop where
  own : w.ownsRow (w0.heap.size + 4) 92 3 sv i (flat3 (casesOf S i))
  none : i = 0 → sv = .slice none 0 0
  apart : ∀ b, sv.ownBlock = some b → ∀ x, x < i → ¬ InS (S x) b

/-- In the body of the first loop: kk values lie in pipe i; c of the row 'on' are laid. -/
structure Body (w0 w : World) (r : Nat) (on : Nat → Bool) (n i c kk : Nat) (S : Nat → Shape) (d : Int) (sv : Value) : Prop where
  old : ∀ k, k < w0.heap.size → w.heap[k]? = w0.heap[k]?
  fam : Fam w w0.heap.size d (i + 1) S (fun _ => 0) (setAt (qOf on (fun _ => 0) r) i (items i 0 kk))
  choice : ChIs w (w0.heap.size + 1 + 1) w0.heap.size (w0.heap.size + 1) 0
  row : Row w (w0.heap.size + 3) 4 n fun x => .bool (decide (x < c) && on x)
  room : ∀ x, x < i + 1 → (S x).n = 64
  new : ∀ x, x < i + 1 → ∀ b, InS (S x) b → w0.heap.size + 3 < b
  own : w.ownsRow (w0.heap.size + 4) 92 3 sv i (flat3 (casesOf S i))
  none : i = 0 → sv = .slice none 0 0
  apart : ∀ b, sv.ownBlock = some b → ∀ x, x < i + 1 → ¬ InS (S x) b
  size : w0.heap.size + 4 ≤ w.heap.size

theorem Body.on {w0 w' : World} {r n i kk : Nat} {on : Nat → Bool} {S : Nat → Shape} {d : Int} {sv : Value} (b : Body w0 w r on n i i kk S d sv)
    (s : SetO w w' (w0.heap.size + 3) (.cells (((List.range n).map fun x => Value.bool (decide (x < i) && on x)).toArray.setIfInBounds i (.bool (on i))) 4)) : Body w0 w' r on n i (i + 1) kk S d sv := by
  have h : ∀ k, k ≠ w0.heap.size + 3 → w'.heap[k]? = w.heap[k]? := s.other
  refine ⟨fun k hk => (h k (by omega)).trans (b.old k hk), b.fam.keep (h _ (by omega)) fun x hx c hc => h c (by have := b.new x hx c hc; omega), ⟨(h _ (by omega)).trans b.choice.obj, b.choice.tick.later (h _ (by omega))⟩, ?_, b.room, b.new, row_later b.own fun k hk => h k (by have := (row_ty b.own hk).1; omega), b.none, b.apart, by rw [s.size]; exact b.size⟩
  have hh := s.is
  rw [row_put] at hh
  refine (show _ = _ from hh).trans ?_
  congr 3
  apply List.map_congr_left
  intro x hx
  by_cases e : x = i
  · subst e; simp
  · rw [setAt_ne _ _ e]
    by_cases e2 : x < i
    · simp [e2, show x < i + 1 by omega]
    · simp [e2, show ¬ x < i + 1 by omega]

theorem Body.sent {w0 w' : World} {r n i c kk : Nat} {on : Nat → Bool} {S : Nat → Shape} {d d' : Int} {sv : Value} (b : Body w0 w r on n i c kk S d sv)
    (hF : Fam w' w0.heap.size d' (i + 1) S (fun _ => 0) (setAt (qOf on (fun _ => 0) r) i (items i 0 (kk + 1)))) (h : OnlyCells w w' (S i)) (hbell : (S i).bell = w0.heap.size) : Body w0 w' r on n i c (kk + 1) S d' sv := by
  have hn : ∀ k, k ≤ w0.heap.size + 3 → k ≠ w0.heap.size → w'.heap[k]? = w.heap[k]? := fun k hk h0 => h.other k (fun hc => by have := b.new i (by omega) k (.inr (.inr hc)); omega) (by omega)
  exact ⟨fun k hk => (hn k (by omega) (by omega)).trans (b.old k hk), hF, ⟨(hn _ (by omega) (by omega)).trans b.choice.obj, b.choice.tick.later (hn _ (by omega) (by omega))⟩, b.row.later (hn _ (by omega) (by omega)), b.room, b.new, row_later b.own fun k hk => h.other k (fun hc => b.apart k hk i (by omega) (.inr (.inr hc))) (by have := (row_ty b.own hk).1; omega), b.none, b.apart, by rw [h.size]; exact b.size⟩

/-- What the third loop holds. -/
structure Going (w0 w : World) (r : Nat) (on : Nat → Bool) (n k N l cap : Nat) (S : Nat → Shape) (nx sc : Nat → Nat) : Prop where
  old : ∀ b, b < w0.heap.size → w.heap[b]? = w0.heap[b]?
  size : N + 2 ≤ w.heap.size
  wk : ∃ d o, Wk w w0.heap.size (w0.heap.size + 1 + 1) (w0.heap.size + 1) l cap n k d S (casesOf S n) o (qOf on nx r)
  row : Row w (w0.heap.size + 3) 4 n fun x => .bool (on x)
  since : Row w N 3 n fun x => .int .i64 (sc x : Int)
  next : Row w (N + 1) 2 n fun x => .int .i64 (nx x : Int)
  nxle : ∀ x, nx x ≤ k
  scle : ∀ x, sc x ≤ k
  fair : ∀ x, x < n → on x = true → sc x ≤ dist n k x
/-- Where all that lies. -/
structure Places (w0 : World) (n N l : Nat) (S : Nat → Shape) : Prop where
  ins : ∀ x, x < n → ∀ b, InS (S x) b → w0.heap.size + 3 < b ∧ b < N
  l : w0.heap.size + 3 < l ∧ l < N

theorem choiceFair (many rounds : Int) {ra : Option Addr} {rl rc : Nat} {B : Nat → Bool} (hrd : ∀ x, x < rl → ∃ A, ra = some A ∧ w.cell? (A.add x) = some (.bool (B x))) (hs : σ.seat = fun _ => none) :
    TopX J 7 #[.int .i64 many, .int .i64 rounds, .slice ra rl rc] σ w fun r σ' w' => r = .bool true ∧ σ' = σ ∧ Grew w w' := by
  have hf : ∀ b, σ.Free (· = b) := fun b => free_noseat hs
  refine topX_body Try.func7 rfl fun cs H => ?_
  simp only [Try.f7, Try.ntmps7, List.size_toArray, List.length_cons, List.length_nil, Nat.reduceAdd, Nat.reduceSub, Nat.zero_add, Array.replicate_succ, Array.replicate_zero, List.push_toArray, List.append_toArray, List.nil_append, List.cons_append, List.append_nil]
  replace H := Keep.mk H
  replace hf := Keep.mk hf
  replace hs := Keep.mk hs
  replace hrd := Keep.mk hrd
  repeat (first
    | refine y_seq ?_
    | (refine y_region ?_; simp only [List.size_toArray, List.length_cons, List.length_nil, Nat.reduceAdd, Nat.zero_add, List.range, List.range.loop])
    | refine y_regionEnd ?_
    | (refine y_nw rfl (by rfl) rfl (by first | exact nx_of rfl | exact nx_nil rfl rfl | exact nx_int rfl rfl rfl) (fun dd hS K hK => ?_); go_simp; refine hK _ _ _ ?_; clear hK K hS dd; simp only [recOf]; try walk_nrm)
    | (refine y_unwanted rfl (by rfl) ?_; try walk_nrm)
    | (refine y_cond true rfl ?_; simp only [if_true])
    | (refine y_cond false rfl ?_; simp only [Bool.false_eq_true, if_false])
    | refine y_skip ?_ | refine y_block ?_ | refine y_inBlock ?_ | refine y_label ?_ | refine y_exit rfl ?_ | refine y_ret ?_ | refine y_end ?_ | refine y_scope ?_ | refine y_inScope ?_)
  refine y_callR rfl (by rfl) rfl rfl Try.func43 (by kernel_rfl) (by kernel_rfl) (at21 many 6 (by decide) (by decide)) (by simp only [List.map_toArray, List.map_cons, List.map_nil] <;> rfl) ?_
  rintro r σ'' w'' ⟨⟨m, hm, rfl⟩, e2, e3⟩
  rw [e2, e3]; clear e2 e3 σ'' w''
  have em : IntKind.i64.wrap (1 + (m : Int)) = ((m + 1 : Nat) : Int) := by rw [wrap_small (by omega) (by omega)]; omega
  walk_nrm
  repeat (first
    | refine y_seq ?_
    | (refine y_region ?_; simp only [List.size_toArray, List.length_cons, List.length_nil, Nat.reduceAdd, Nat.zero_add, List.range, List.range.loop])
    | refine y_regionEnd ?_
    | (refine y_nw rfl (by rfl) rfl (by first | exact nx_of rfl | exact nx_nil rfl rfl | exact nx_int rfl rfl rfl) (fun dd hS K hK => ?_); go_simp; refine hK _ _ _ ?_; clear hK K hS dd; simp only [recOf]; try walk_nrm)
    | (refine y_unwanted rfl (by rfl) ?_; try walk_nrm)
    | (refine y_cond true rfl ?_; simp only [if_true])
    | (refine y_cond false rfl ?_; simp only [Bool.false_eq_true, if_false])
    | refine y_skip ?_ | refine y_block ?_ | refine y_inBlock ?_ | refine y_label ?_ | refine y_exit rfl ?_ | refine y_ret ?_ | refine y_end ?_ | refine y_scope ?_ | refine y_inScope ?_)
  obtain ⟨n, hn1, hn6, he⟩ : ∃ n : Nat, 0 < n ∧ n ≤ 6 ∧ (m : Int) + 1 = n := ⟨m + 1, by omega, by omega, by omega⟩
  rw [he]
  clear he em
  refine y_callR rfl (by rfl) rfl rfl Try.func43 (by kernel_rfl) (by kernel_rfl) (at21 rounds 60 (by decide) (by decide)) (by simp only [List.map_toArray, List.map_cons, List.map_nil] <;> rfl) ?_
  rintro r σ'' w'' ⟨⟨r, hr60, rfl⟩, e2, e3⟩
  rw [e2, e3]; clear e2 e3 σ'' w''
  walk_nrm
  repeat (first
    | refine y_seq ?_
    | (refine y_region ?_; simp only [List.size_toArray, List.length_cons, List.length_nil, Nat.reduceAdd, Nat.zero_add, List.range, List.range.loop])
    | refine y_regionEnd ?_
    | (refine y_nw rfl (by rfl) rfl (by first | exact nx_of rfl | exact nx_nil rfl rfl | exact nx_int rfl rfl rfl) (fun dd hS K hK => ?_); go_simp; refine hK _ _ _ ?_; clear hK K hS dd; simp only [recOf]; try walk_nrm)
    | (refine y_unwanted rfl (by rfl) ?_; try walk_nrm)
    | (refine y_cond true rfl ?_; simp only [if_true])
    | (refine y_cond false rfl ?_; simp only [Bool.false_eq_true, if_false])
    | refine y_skip ?_ | refine y_block ?_ | refine y_inBlock ?_ | refine y_label ?_ | refine y_exit rfl ?_ | refine y_ret ?_ | refine y_end ?_ | refine y_scope ?_ | refine y_inScope ?_)
  refine y_callR rfl (by rfl) rfl rfl Try.func26 (by kernel_rfl) (by kernel_rfl) (new1 0) (by simp only [List.map_toArray, List.map_cons, List.map_nil] <;> rfl) ?_
  rintro _ σ'' w1 ⟨rfl, e2, N1⟩
  rw [e2]
  clear e2 σ''
  walk_nrm
  have z1 := N1.size
  replace N1 := Keep.mk N1
  replace z1 := Keep.mk z1
  repeat (first
    | refine y_seq ?_
    | (refine y_region ?_; simp only [List.size_toArray, List.length_cons, List.length_nil, Nat.reduceAdd, Nat.zero_add, List.range, List.range.loop])
    | refine y_regionEnd ?_
    | (refine y_nw rfl (by rfl) rfl (by first | exact nx_of rfl | exact nx_nil rfl rfl | exact nx_int rfl rfl rfl) (fun dd hS K hK => ?_); go_simp; refine hK _ _ _ ?_; clear hK K hS dd; simp only [recOf]; try walk_nrm)
    | (refine y_unwanted rfl (by rfl) ?_; try walk_nrm)
    | (refine y_cond true rfl ?_; simp only [if_true])
    | (refine y_cond false rfl ?_; simp only [Bool.false_eq_true, if_false])
    | refine y_skip ?_ | refine y_block ?_ | refine y_inBlock ?_ | refine y_label ?_ | refine y_exit rfl ?_ | refine y_ret ?_ | refine y_end ?_ | refine y_scope ?_ | refine y_inScope ?_)
  refine y_callR rfl (by rfl) rfl rfl Try.func44 (by kernel_rfl) (by kernel_rfl) (choice_new w.heap.size) (by simp only [List.map_toArray, List.map_cons, List.map_nil] <;> rfl) ?_
  rintro r σ'' w2 ⟨rfl, e2, C, g2, z2⟩
  rw [e2]; clear e2 σ''
  replace z1 := Keep.out z1
  rw [z1] at C z2 ⊢
  replace C := Keep.mk C
  replace g2 := Keep.mk g2
  replace z2 := Keep.mk z2
  replace z1 := Keep.mk z1
  walk_nrm
  repeat (first
    | refine y_seq ?_
    | (refine y_region ?_; simp only [List.size_toArray, List.length_cons, List.length_nil, Nat.reduceAdd, Nat.zero_add, List.range, List.range.loop])
    | refine y_regionEnd ?_
    | (refine y_nw rfl (by rfl) rfl (by first | exact nx_of rfl | exact nx_nil rfl rfl | exact nx_int rfl rfl rfl) (fun dd hS K hK => ?_); go_simp; refine hK _ _ _ ?_; clear hK K hS dd; simp only [recOf]; try walk_nrm)
    | (refine y_unwanted rfl (by rfl) ?_; try walk_nrm)
    | (refine y_cond true rfl ?_; simp only [if_true])
    | (refine y_cond false rfl ?_; simp only [Bool.false_eq_true, if_false])
    | refine y_skip ?_ | refine y_block ?_ | refine y_inBlock ?_ | refine y_label ?_ | refine y_exit rfl ?_ | refine y_ret ?_ | refine y_end ?_ | refine y_scope ?_ | refine y_inScope ?_)
  replace N1 := Keep.out N1
  replace C := Keep.out C
  replace g2 := Keep.out g2
  replace z1 := Keep.out z1
  replace z2 := Keep.out z2
  have g02 : Grew w w2 := ((Grew.refl w).trans ⟨by omega, N1.old⟩).trans g2
  have b2 : CellIs w2 w.heap.size 0 := N1.is.later (g2.old _ N1.is.lt)
  obtain ⟨i4, hi, hz0, hz1, hz2⟩ := info_parts (P := Try.prog) (e := 4) (z := .bool false) (size := 1) (bytes := 1) (by kernel_rfl)
  refine y_makeSlice (n := n) rfl (by rfl) rfl rfl rfl rfl Try.underlying59 hi hz0 (by rw [hz2]; omega) (by unfold maxLen; omega) ?_
  have rw3 := row_made (w := w2) (n := n) (e := 4) (z := .bool false) rfl hz1
  have g23 : (w2.alloc (.cells (madeCells (Value.bool false).cells (n * i4.size)) 4)).heap.size = w2.heap.size + 1 ∧ ∀ c, c < w2.heap.size → (w2.alloc (.cells (madeCells (Value.bool false).cells (n * i4.size)) 4)).heap[c]? = w2.heap[c]? := ⟨(newO _ _).size, (newO _ _).old⟩
  generalize w2.alloc (.cells (madeCells (Value.bool false).cells (n * i4.size)) 4) = w3 at rw3 g23 ⊢
  clear hi hz0 hz1 hz2 i4
  rw [show w2.heap.size = w.heap.size + 3 by omega] at rw3 ⊢
  walk_nrm
  have L0 : Laying w w3 r (onf rl B) n 0 (fun _ => shape 0 0 0 0 0 fun _ => 0) 0 (qOf (onf rl B) (fun _ => 0) r) := by
    have g3 : Grew w w3 := g02.trans ⟨by omega, g23.2⟩
    refine ⟨g3.old, ⟨b2.later (g23.2 _ b2.lt), fun x hx => by omega, fun x y hx => by omega⟩, ?_, ?_, fun x hx => by omega, fun x hx => by omega⟩
    · exact C.grew ⟨by rw [g23.1]; omega, g23.2⟩
    · simpa using rw3
  have z3 : w3.heap.size = w.heap.size + 4 := by rw [g23.1]; omega
  clear rw3 g23 N1 C g2 z1 z2 g02 b2
  replace L0 := Keep.mk L0
  replace z3 := Keep.mk z3
  repeat (first
    | refine y_seq ?_
    | (refine y_region ?_; simp only [List.size_toArray, List.length_cons, List.length_nil, Nat.reduceAdd, Nat.zero_add, List.range, List.range.loop])
    | refine y_regionEnd ?_
    | (refine y_nw rfl (by rfl) rfl (by first | exact nx_of rfl | exact nx_nil rfl rfl | exact nx_int rfl rfl rfl) (fun dd hS K hK => ?_); go_simp; refine hK _ _ _ ?_; clear hK K hS dd; simp only [recOf]; try walk_nrm)
    | (refine y_unwanted rfl (by rfl) ?_; try walk_nrm)
    | (refine y_cond true rfl ?_; simp only [if_true])
    | (refine y_cond false rfl ?_; simp only [Bool.false_eq_true, if_false])
    | refine y_skip ?_ | refine y_block ?_ | refine y_inBlock ?_ | refine y_label ?_ | refine y_exit rfl ?_ | refine y_ret ?_ | refine y_end ?_ | refine y_scope ?_ | refine y_inScope ?_)
  refine y_loopI (fun t a σ' w' => σ' = σ ∧ ∃ (i : Nat) (S : Nat → Shape) (d : Int) (sv : Value), t = n - i ∧ i ≤ n ∧ Laying w w' r (onf rl B) n i S d (qOf (onf rl B) (fun _ => 0) r) ∧ LRow w w' i S sv ∧
      Tm a 202 [(0, .int .i64 n), (1, .int .i64 r), (2, .slice ra rl rc), (6, .bool false), (7, .pointer (some ⟨w.heap.size, 0, none⟩)), (8, .pointer (some ⟨w.heap.size + 1 + 1, 0, none⟩)), (9, sv), (10, .slice (some ⟨w.heap.size + 3, 0, none⟩) n n), (11, .bool (someOn (onf rl B) i)), (12, .int .i64 (i : Int))]) n
    ⟨rfl, 0, _, 0, _, by omega, by omega, L0.out, ⟨World.ownsRow_nil _ _ _ _, fun _ => rfl, fun b hb => by cases hb⟩, ⟨rfl, rfl, rfl, rfl, rfl, rfl, rfl, rfl, rfl, rfl, rfl, rfl, trivial⟩⟩ ?_
  clear L0 z3 w1 w2 w3
  rintro t IH a σ w3 ⟨rfl, i, S, d, sv, ht, hin, L, R, hT⟩
  obtain ⟨j, rfl, h0', h1', h2', h3', h4', h5', h6', h7', h8', h9', -⟩ := Tm.lit hT
  simp only at h0' h1' h2' h3' h4' h5' h6' h7' h8' h9'
  simp only [List.range, List.range.loop, List.map_cons, List.map_nil, h0', h1', h2', h3', h4', h5', h6', h7', h8', h9']
  clear h0' h1' h2' h3' h4' h5' h6' h7' h8' h9' hT
  by_cases e : i < n
  · have e1 : (i : Int) < n := by omega
    replace IH := Keep.mk IH
    replace L := Keep.mk L
    replace R := Keep.mk R
    replace ht := Keep.mk ht
    replace hin := Keep.mk hin
    repeat (first
      | refine y_seq ?_
      | (refine y_region ?_; simp only [List.size_toArray, List.length_cons, List.length_nil, Nat.reduceAdd, Nat.zero_add, List.range, List.range.loop])
      | refine y_regionEnd ?_
      | (refine y_nw rfl (by rfl) rfl (by first | exact nx_of rfl | exact nx_nil rfl rfl | exact nx_int rfl rfl rfl) (fun dd hS K hK => ?_); go_simp; refine hK _ _ _ ?_; clear hK K hS dd; simp only [recOf]; try walk_nrm)
      | (refine y_unwanted rfl (by rfl) ?_; try walk_nrm)
      | (refine y_cond true rfl ?_; simp only [if_true])
      | (refine y_cond false rfl ?_; simp only [Bool.false_eq_true, if_false])
      | refine y_skip ?_ | refine y_block ?_ | refine y_inBlock ?_ | refine y_label ?_ | refine y_exit rfl ?_ | refine y_ret ?_ | refine y_end ?_ | refine y_scope ?_ | refine y_inScope ?_)
    refine y_callR rfl (by rfl) rfl rfl Try.func45 (by kernel_rfl) (by kernel_rfl) (pipe_new_bell 64 ⟨w.heap.size, 0, none⟩ (by decide) (by decide) pow2_64.self) (by simp only [List.map_toArray, List.map_cons, List.map_nil] <;> rfl) ?_
    rintro r' σ'' w4 ⟨e2, p, c1, sv1, rfl, M⟩
    rw [e2]; clear e2 σ''
    replace L := Keep.out L
    replace R := Keep.out R
    obtain ⟨pl, cap, hP, hpl⟩ := made_pq M pow2_64 (M.kept _ _ L.fam.isBell) fun x hx => by have := M.new x hx; have := L.fam.isBell.lt; omega
    have hN : w.heap.size + 4 ≤ w3.heap.size := by have := L.row.lt; omega
    have hnew : ∀ b, InS (shape p w.heap.size 64 pl cap c1) b → w3.heap.size ≤ b := fun b hb => by
      rcases hb with rfl | rfl | hb
      · exact M.p0
      · exact hpl
      · obtain ⟨x, hx, rfl⟩ := shape_cell hb; exact M.new x hx
    have ho : ∀ b, b < w3.heap.size → w4.heap[b]? = w3.heap[b]? := M.old
    have L4 : Fam w4 w.heap.size d (i + 1) (setAt S i (shape p w.heap.size 64 pl cap c1)) (fun _ => 0) (setAt (qOf (onf rl B) (fun _ => 0) r) i (items i 0 0)) := by
      have F := (L.fam.grew ho).more hP rfl fun x hx b hb hc => by
        have h1 := L.fam.lt hx (.inr (.inr hb))
        have h2 := hnew b (.inr (.inr hc))
        omega
      rwa [setAt_self (f := fun _ => 0) i rfl] at F
    have hg4 : ∀ k, k < w.heap.size → w4.heap[k]? = w.heap[k]? := fun k hk => (ho k (by omega)).trans (L.old k hk)
    have C4 : ChIs w4 (w.heap.size + 1 + 1) w.heap.size (w.heap.size + 1) 0 := L.choice.grew ⟨M.size, ho⟩
    have row4 := L.row.later (ho _ (by omega))
    obtain ⟨S', hS1, hS2, hS3⟩ : ∃ S' : Nat → Shape, S' = setAt S i (shape p w.heap.size 64 pl cap c1) ∧ S' i = shape p w.heap.size 64 pl cap c1 ∧ ∀ x, x < i → S' x = S x := ⟨_, rfl, setAt_same _ _ _, fun x hx => setAt_ne _ _ (by omega)⟩
    rw [← hS1] at L4
    have room4 : ∀ x, x < i + 1 → (S' x).n = 64 := fun x hx => by
      by_cases e : x = i
      · subst e; rw [hS2]; rfl
      · rw [hS3 x (by omega)]; exact L.room x (by omega)
    have new4 : ∀ x, x < i + 1 → ∀ b, InS (S' x) b → w.heap.size + 3 < b := fun x hx b hb => by
      by_cases e : x = i
      · subst e; rw [hS2] at hb; have := hnew b hb; omega
      · rw [hS3 x (by omega)] at hb; exact L.new x (by omega) b hb
    have own4 : w4.ownsRow (w.heap.size + 4) 92 3 sv i (flat3 (casesOf S' i)) := by
      rw [casesOf_congr hS3]
      exact row_later R.own fun k hk => ho k (row_ty R.own hk).2.1
    have apart4 : ∀ b, sv.ownBlock = some b → ∀ x, x < i + 1 → ¬ InS (S' x) b := fun b hb x hx hi => by
      by_cases e : x = i
      · subst e; rw [hS2] at hi; have := hnew b hi; have := (row_ty R.own hb).2.1; omega
      · rw [hS3 x (by omega)] at hi; exact R.apart b hb x (by omega) hi
    have hp : p = (S' i).p := by rw [hS2]; rfl
    have Y4 : Body w w4 r (onf rl B) n i i 0 S' d sv := ⟨hg4, L4, C4, row4, room4, new4, own4, R.none, apart4, by have := M.size; omega⟩
    clear L R M hP hpl hnew ho hS1 hS2 hS3 hN L4 C4 row4 room4 new4 own4 apart4 hg4
    rw [hp]
    clear hp
    walk_nrm
    replace Y4 := Keep.mk Y4
    have onN : (i : Int) < (n : Int) := e1
    have onP : (0 : Int) ≤ (i : Int) := by omega
    repeat (first
      | refine y_seq ?_
      | refine y_regionEnd ?_
      | (refine y_nw rfl (by rfl) rfl (by first | exact nx_of rfl | exact nx_nil rfl rfl | exact nx_int rfl rfl rfl) (fun dd hS K hK => ?_); go_simp; refine hK _ _ _ ?_; clear hK K hS dd; simp only [recOf]; try walk_nrm)
      | (refine y_unwanted rfl (by rfl) ?_; try walk_nrm)
      | (refine y_cond true rfl ?_; simp only [if_true])
      | (refine y_cond false rfl ?_; simp only [Bool.false_eq_true, if_false])
      | refine y_skip ?_ | refine y_block ?_ | refine y_inBlock ?_ | refine y_label ?_ | refine y_exit rfl ?_ | refine y_ret ?_ | refine y_end ?_ | refine y_scope ?_ | refine y_inScope ?_)
    (refine y_region ?_; simp only [List.size_toArray, List.length_cons, List.length_nil, Nat.reduceAdd, Nat.zero_add, List.range, List.range.loop])
    repeat (first
      | refine y_seq ?_
      | refine y_regionEnd ?_
      | (refine y_nw rfl (by rfl) rfl (by first | exact nx_of rfl | exact nx_nil rfl rfl | exact nx_int rfl rfl rfl) (fun dd hS K hK => ?_); go_simp; refine hK _ _ _ ?_; clear hK K hS dd; simp only [recOf]; try walk_nrm)
      | (refine y_unwanted rfl (by rfl) ?_; try walk_nrm)
      | (refine y_cond true rfl ?_; simp only [if_true])
      | (refine y_cond false rfl ?_; simp only [Bool.false_eq_true, if_false])
      | refine y_skip ?_ | refine y_block ?_ | refine y_inBlock ?_ | refine y_label ?_ | refine y_exit rfl ?_ | refine y_ret ?_ | refine y_end ?_ | refine y_scope ?_ | refine y_inScope ?_)
    refine y_cut (fun a σ' w5 => σ' = σ ∧ Body w w5 r (onf rl B) n i (i + 1) 0 S' d sv ∧
      Tm a 202 [(0, .int .i64 n), (1, .int .i64 r), (2, .slice ra rl rc), (6, .bool false), (7, .pointer (some ⟨w.heap.size, 0, none⟩)), (8, .pointer (some ⟨w.heap.size + 1 + 1, 0, none⟩)), (9, sv), (10, .slice (some ⟨w.heap.size + 3, 0, none⟩) n n), (11, .bool (someOn (onf rl B) i)), (12, .int .i64 (i : Int)), (13, .pointer (some ⟨(S' i).p, 0, none⟩))]) (fun kk K => ?_) ?_
    · clear IH H
      replace K := Keep.mk K
      by_cases hge : rl ≤ i
      · have hge' : (rl : Int) ≤ i := by omega
        repeat (first
          | refine y_seq ?_
          | (refine y_region ?_; simp only [List.size_toArray, List.length_cons, List.length_nil, Nat.reduceAdd, Nat.zero_add, List.range, List.range.loop])
          | refine y_regionEnd ?_
          | (refine y_nw rfl (by rfl) rfl (by first | exact nx_of rfl | exact nx_nil rfl rfl | exact nx_int rfl rfl rfl) (fun dd hS K hK => ?_); go_simp; refine hK _ _ _ ?_; clear hK K hS dd; simp only [recOf]; try walk_nrm)
          | (refine y_unwanted rfl (by rfl) ?_; try walk_nrm)
          | (refine y_cond true rfl ?_; simp only [if_true])
          | (refine y_cond false rfl ?_; simp only [Bool.false_eq_true, if_false])
          | refine y_skip ?_ | refine y_block ?_ | refine y_inBlock ?_ | refine y_label ?_ | refine y_exit rfl ?_ | refine y_ret ?_ | refine y_end ?_ | refine y_scope ?_ | refine y_inScope ?_)
        have hr4 : w4.heap[w.heap.size + 3]? = some (.cells ((List.range n).map fun x => Value.bool (decide (x < i) && onf rl B x)).toArray 4) := Y4.out.row
        have hc4 : w4.cell? ⟨w.heap.size + 3, i, none⟩ = some (.bool (decide (i < i) && onf rl B i)) := Y4.out.row.get e
        have fz' := frozen_of (i := i) hr4
        (refine y_store rfl (by rfl) rfl rfl rfl hc4 (hf.out _) (fun dd hS K hK => ?_); go_simp; refine hK _ _ _ ?_; clear hK K hS dd; simp only [recOf]; try walk_nrm)
        clear fz'
        have S5 := setO (i := i) hr4 (.bool true)
        generalize World.setCell _ _ _ = w5 at S5 ⊢
        clear hr4 hc4
        replace Y4 := Keep.out Y4
        rw [show true = onf rl B i by simp [onf, hge]] at S5
        refine y_regionEnd ?_
        exact K.out _ _ _ ⟨rfl, Y4.on S5, ⟨rfl, rfl, rfl, rfl, rfl, rfl, rfl, rfl, rfl, rfl, rfl, rfl, rfl, trivial⟩⟩
      · have hge' : ¬ (rl : Int) ≤ i := by omega
        obtain ⟨A, rfl, hcA⟩ := hrd.out i (by omega)
        have hA : w4.cell? (A.add i) = some (.bool (B i)) := by
          refine (cell?_of_block (Y4.out.old _ ?_)).trans hcA
          exact lt_of_cell hcA
        have rlN : (i : Int) < (rl : Int) := by omega
        repeat (first
          | refine y_seq ?_
          | (refine y_region ?_; simp only [List.size_toArray, List.length_cons, List.length_nil, Nat.reduceAdd, Nat.zero_add, List.range, List.range.loop])
          | refine y_regionEnd ?_
          | (refine y_nw rfl (by rfl) rfl (by first | exact nx_of rfl | exact nx_nil rfl rfl | exact nx_int rfl rfl rfl) (fun dd hS K hK => ?_); go_simp; refine hK _ _ _ ?_; clear hK K hS dd; simp only [recOf]; try walk_nrm)
          | (refine y_unwanted rfl (by rfl) ?_; try walk_nrm)
          | (refine y_cond true rfl ?_; simp only [if_true])
          | (refine y_cond false rfl ?_; simp only [Bool.false_eq_true, if_false])
          | refine y_skip ?_ | refine y_block ?_ | refine y_inBlock ?_ | refine y_label ?_ | refine y_exit rfl ?_ | refine y_ret ?_ | refine y_end ?_ | refine y_scope ?_ | refine y_inScope ?_)
        have hr4 : w4.heap[w.heap.size + 3]? = some (.cells ((List.range n).map fun x => Value.bool (decide (x < i) && onf rl B x)).toArray 4) := Y4.out.row
        have hc4 : w4.cell? ⟨w.heap.size + 3, i, none⟩ = some (.bool (decide (i < i) && onf rl B i)) := Y4.out.row.get e
        have fz' := frozen_of (i := i) hr4
        (refine y_store rfl (by rfl) rfl rfl rfl hc4 (hf.out _) (fun dd hS K hK => ?_); go_simp; refine hK _ _ _ ?_; clear hK K hS dd; simp only [recOf]; try walk_nrm)
        clear fz'
        have S5 := setO (i := i) hr4 (.bool (B i))
        generalize World.setCell _ _ _ = w5 at S5 ⊢
        clear hr4 hc4
        replace Y4 := Keep.out Y4
        rw [show B i = onf rl B i by simp [onf, hge]] at S5
        refine y_regionEnd ?_
        exact K.out _ _ _ ⟨rfl, Y4.on S5, ⟨rfl, rfl, rfl, rfl, rfl, rfl, rfl, rfl, rfl, rfl, rfl, rfl, rfl, trivial⟩⟩
    clear Y4 w4
    rintro a σ w5 ⟨rfl, Y5, hT⟩
    obtain ⟨j, rfl, h0', h1', h2', h3', h4', h5', h6', h7', h8', h9', h10', -⟩ := Tm.lit hT
    simp only at h0' h1' h2' h3' h4' h5' h6' h7' h8' h9' h10'
    simp only [List.range, List.range.loop, List.map_cons, List.map_nil, h0', h1', h2', h3', h4', h5', h6', h7', h8', h9', h10']
    clear h0' h1' h2' h3' h4' h5' h6' h7' h8' h9' h10' hT
    replace Y5 := Keep.mk Y5
    repeat (first
      | refine y_seq ?_
      | refine y_regionEnd ?_
      | (refine y_nw rfl (by rfl) rfl (by first | exact nx_of rfl | exact nx_nil rfl rfl | exact nx_int rfl rfl rfl) (fun dd hS K hK => ?_); go_simp; refine hK _ _ _ ?_; clear hK K hS dd; simp only [recOf]; try walk_nrm)
      | (refine y_unwanted rfl (by rfl) ?_; try walk_nrm)
      | (refine y_cond true rfl ?_; simp only [if_true])
      | (refine y_cond false rfl ?_; simp only [Bool.false_eq_true, if_false])
      | refine y_skip ?_ | refine y_block ?_ | refine y_inBlock ?_ | refine y_label ?_ | refine y_exit rfl ?_ | refine y_ret ?_ | refine y_end ?_ | refine y_scope ?_ | refine y_inScope ?_)
    refine y_cut (fun a σ' w6 => σ' = σ ∧ w6 = w5 ∧
      Tm a 202 [(0, .int .i64 n), (1, .int .i64 r), (2, .slice ra rl rc), (6, .bool false), (7, .pointer (some ⟨w.heap.size, 0, none⟩)), (8, .pointer (some ⟨w.heap.size + 1 + 1, 0, none⟩)), (9, sv), (10, .slice (some ⟨w.heap.size + 3, 0, none⟩) n n), (11, .bool (someOn (onf rl B) (i + 1))), (12, .int .i64 (i : Int)), (13, .pointer (some ⟨(S' i).p, 0, none⟩))]) (fun kk K => ?_) ?_
    · clear IH H
      replace K := Keep.mk K
      have hc5 : w5.cell? ⟨w.heap.size + 3, i, none⟩ = some (.bool (onf rl B i)) := (Y5.out.row.get e).trans (by simp)
      have hso := someOn_succ (onf rl B) i
      generalize someOn (onf rl B) (i + 1) = s1 at hso K
      generalize someOn (onf rl B) i = s0 at hso ⊢
      cases s0
      · simp only [Bool.false_or] at hso
        subst hso
        generalize onf rl B i = oi at hc5 K
        clear Y5
        repeat (first
          | refine y_seq ?_
          | (refine y_region ?_; simp only [List.size_toArray, List.length_cons, List.length_nil, Nat.reduceAdd, Nat.zero_add, List.range, List.range.loop])
          | refine y_regionEnd ?_
          | (refine y_nw rfl (by rfl) rfl (by first | exact nx_of rfl | exact nx_nil rfl rfl | exact nx_int rfl rfl rfl) (fun dd hS K hK => ?_); go_simp; refine hK _ _ _ ?_; clear hK K hS dd; simp only [recOf]; try walk_nrm)
          | (refine y_unwanted rfl (by rfl) ?_; try walk_nrm)
          | (refine y_cond true rfl ?_; simp only [if_true])
          | (refine y_cond false rfl ?_; simp only [Bool.false_eq_true, if_false])
          | refine y_skip ?_ | refine y_block ?_ | refine y_inBlock ?_ | refine y_label ?_ | refine y_exit rfl ?_ | refine y_ret ?_ | refine y_end ?_ | refine y_scope ?_ | refine y_inScope ?_)
        exact K.out _ _ _ ⟨rfl, rfl, ⟨rfl, rfl, rfl, rfl, rfl, rfl, rfl, rfl, rfl, rfl, rfl, rfl, rfl, trivial⟩⟩
      · simp only [Bool.true_or] at hso
        subst hso
        clear Y5
        repeat (first
          | refine y_seq ?_
          | (refine y_region ?_; simp only [List.size_toArray, List.length_cons, List.length_nil, Nat.reduceAdd, Nat.zero_add, List.range, List.range.loop])
          | refine y_regionEnd ?_
          | (refine y_nw rfl (by rfl) rfl (by first | exact nx_of rfl | exact nx_nil rfl rfl | exact nx_int rfl rfl rfl) (fun dd hS K hK => ?_); go_simp; refine hK _ _ _ ?_; clear hK K hS dd; simp only [recOf]; try walk_nrm)
          | (refine y_unwanted rfl (by rfl) ?_; try walk_nrm)
          | (refine y_cond true rfl ?_; simp only [if_true])
          | (refine y_cond false rfl ?_; simp only [Bool.false_eq_true, if_false])
          | refine y_skip ?_ | refine y_block ?_ | refine y_inBlock ?_ | refine y_label ?_ | refine y_exit rfl ?_ | refine y_ret ?_ | refine y_end ?_ | refine y_scope ?_ | refine y_inScope ?_)
        exact K.out _ _ _ ⟨rfl, rfl, ⟨rfl, rfl, rfl, rfl, rfl, rfl, rfl, rfl, rfl, rfl, rfl, rfl, rfl, trivial⟩⟩
    rintro a σ w6 ⟨rfl, rfl, hT⟩
    obtain ⟨j, rfl, h0', h1', h2', h3', h4', h5', h6', h7', h8', h9', h10', -⟩ := Tm.lit hT
    simp only at h0' h1' h2' h3' h4' h5' h6' h7' h8' h9' h10'
    simp only [List.range, List.range.loop, List.map_cons, List.map_nil, h0', h1', h2', h3', h4', h5', h6', h7', h8', h9', h10']
    clear h0' h1' h2' h3' h4' h5' h6' h7' h8' h9' h10' hT
    repeat (first
      | refine y_seq ?_
      | (refine y_region ?_; simp only [List.size_toArray, List.length_cons, List.length_nil, Nat.reduceAdd, Nat.zero_add, List.range, List.range.loop])
      | refine y_regionEnd ?_
      | (refine y_nw rfl (by rfl) rfl (by first | exact nx_of rfl | exact nx_nil rfl rfl | exact nx_int rfl rfl rfl) (fun dd hS K hK => ?_); go_simp; refine hK _ _ _ ?_; clear hK K hS dd; simp only [recOf]; try walk_nrm)
      | (refine y_unwanted rfl (by rfl) ?_; try walk_nrm)
      | (refine y_cond true rfl ?_; simp only [if_true])
      | (refine y_cond false rfl ?_; simp only [Bool.false_eq_true, if_false])
      | refine y_skip ?_ | refine y_inBlock ?_ | refine y_label ?_ | refine y_exit rfl ?_ | refine y_ret ?_ | refine y_end ?_ | refine y_scope ?_ | refine y_inScope ?_)
    refine y_cut (fun a σ' w7 => σ' = σ ∧ ∃ (kk : Nat) (d : Int), kk = (if onf rl B i then r else 0) ∧ Body w w7 r (onf rl B) n i (i + 1) kk S' d sv ∧
      Tm a 202 [(0, .int .i64 n), (1, .int .i64 r), (2, .slice ra rl rc), (6, .bool false), (7, .pointer (some ⟨w.heap.size, 0, none⟩)), (8, .pointer (some ⟨w.heap.size + 1 + 1, 0, none⟩)), (9, sv), (10, .slice (some ⟨w.heap.size + 3, 0, none⟩) n n), (11, .bool (someOn (onf rl B) (i + 1))), (12, .int .i64 (i : Int)), (13, .pointer (some ⟨(S' i).p, 0, none⟩))]) (fun kk K => ?_) ?_
    · clear IH H
      replace K := Keep.mk K
      repeat (first
        | refine y_seq ?_
        | (refine y_region ?_; simp only [List.size_toArray, List.length_cons, List.length_nil, Nat.reduceAdd, Nat.zero_add, List.range, List.range.loop])
        | refine y_regionEnd ?_
        | (refine y_nw rfl (by rfl) rfl (by first | exact nx_of rfl | exact nx_nil rfl rfl | exact nx_int rfl rfl rfl) (fun dd hS K hK => ?_); go_simp; refine hK _ _ _ ?_; clear hK K hS dd; simp only [recOf]; try walk_nrm)
        | (refine y_unwanted rfl (by rfl) ?_; try walk_nrm)
        | (refine y_cond true rfl ?_; simp only [if_true])
        | (refine y_cond false rfl ?_; simp only [Bool.false_eq_true, if_false])
        | refine y_skip ?_ | refine y_block ?_ | refine y_inBlock ?_ | refine y_label ?_ | refine y_exit rfl ?_ | refine y_ret ?_ | refine y_end ?_ | refine y_scope ?_ | refine y_inScope ?_)
      refine y_loopI (fun t a σ' w7 => σ' = σ ∧ ∃ (k : Nat) (d : Int), t = r - k ∧ k ≤ r ∧ (onf rl B i = false → k = 0) ∧ Body w w7 r (onf rl B) n i (i + 1) k S' d sv ∧
      Tm a 202 [(0, .int .i64 n), (1, .int .i64 r), (2, .slice ra rl rc), (6, .bool false), (7, .pointer (some ⟨w.heap.size, 0, none⟩)), (8, .pointer (some ⟨w.heap.size + 1 + 1, 0, none⟩)), (9, sv), (10, .slice (some ⟨w.heap.size + 3, 0, none⟩) n n), (11, .bool (someOn (onf rl B) (i + 1))), (12, .int .i64 (i : Int)), (13, .pointer (some ⟨(S' i).p, 0, none⟩)), (15, .int .i64 (k : Int))]) r
        ⟨rfl, 0, _, by omega, by omega, fun _ => rfl, Y5.out, ⟨rfl, rfl, rfl, rfl, rfl, rfl, rfl, rfl, rfl, rfl, rfl, rfl, rfl, rfl, trivial⟩⟩ ?_
      clear Y5 w6
      rintro t' IH a σ w5 ⟨rfl, k, d, ht', hkr, hk0, Y5, hT⟩
      obtain ⟨j, rfl, h0', h1', h2', h3', h4', h5', h6', h7', h8', h9', h10', h11', -⟩ := Tm.lit hT
      simp only at h0' h1' h2' h3' h4' h5' h6' h7' h8' h9' h10' h11'
      simp only [List.range, List.range.loop, List.map_cons, List.map_nil, h0', h1', h2', h3', h4', h5', h6', h7', h8', h9', h10', h11']
      clear h0' h1' h2' h3' h4' h5' h6' h7' h8' h9' h10' h11' hT
      have hc5 : w5.cell? ⟨w.heap.size + 3, i, none⟩ = some (.bool (onf rl B i)) := (Y5.row.get e).trans (by simp)
      by_cases hk : k < r
      · have hk' : (k : Int) < r := by omega
        replace IH := Keep.mk IH
        replace Y5 := Keep.mk Y5
        replace hk0 := Keep.mk hk0
        replace ht' := Keep.mk ht'
        replace hkr := Keep.mk hkr
        cases hon : onf rl B i
        · rw [hon] at hc5 hk0
          have hk00 := Keep.mk (hk0.out rfl)
          repeat (first
            | refine y_seq ?_
            | (refine y_region ?_; simp only [List.size_toArray, List.length_cons, List.length_nil, Nat.reduceAdd, Nat.zero_add, List.range, List.range.loop])
            | refine y_regionEnd ?_
            | (refine y_nw rfl (by rfl) rfl (by first | exact nx_of rfl | exact nx_nil rfl rfl | exact nx_int rfl rfl rfl) (fun dd hS K hK => ?_); go_simp; refine hK _ _ _ ?_; clear hK K hS dd; simp only [recOf]; try walk_nrm)
            | (refine y_unwanted rfl (by rfl) ?_; try walk_nrm)
            | (refine y_cond true rfl ?_; simp only [if_true])
            | (refine y_cond false rfl ?_; simp only [Bool.false_eq_true, if_false])
            | refine y_skip ?_ | refine y_block ?_ | refine y_inBlock ?_ | refine y_label ?_ | refine y_exit rfl ?_ | refine y_ret ?_ | refine y_end ?_ | refine y_scope ?_ | refine y_inScope ?_)
          exact K.out _ _ _ ⟨rfl, k, d, by simp [hk00.out, hon], Y5.out, ⟨rfl, rfl, rfl, rfl, rfl, rfl, rfl, rfl, rfl, rfl, rfl, rfl, rfl, trivial⟩⟩
        · rw [hon] at hc5
          have ew1 : IntKind.i64.wrap (1000 * (i : Int)) = 1000 * (i : Int) := wrap_small (by omega) (by omega)
          have ew2 : IntKind.i64.wrap (1000 * (i : Int) + (k : Int)) = 1000 * (i : Int) + (k : Int) := wrap_small (by omega) (by omega)
          have ew3 : IntKind.i64.wrap ((k : Int) + 1) = (k : Int) + 1 := wrap_small (by omega) (by omega)
          repeat (first
            | refine y_seq ?_
            | (refine y_region ?_; simp only [List.size_toArray, List.length_cons, List.length_nil, Nat.reduceAdd, Nat.zero_add, List.range, List.range.loop])
            | refine y_regionEnd ?_
            | (refine y_nw rfl (by rfl) rfl (by first | exact nx_of rfl | exact nx_nil rfl rfl | exact nx_int rfl rfl rfl) (fun dd hS K hK => ?_); go_simp; refine hK _ _ _ ?_; clear hK K hS dd; simp only [recOf]; try walk_nrm)
            | (refine y_unwanted rfl (by rfl) ?_; try walk_nrm)
            | (refine y_cond true rfl ?_; simp only [if_true])
            | (refine y_cond false rfl ?_; simp only [Bool.false_eq_true, if_false])
            | refine y_skip ?_ | refine y_block ?_ | refine y_inBlock ?_ | refine y_label ?_ | refine y_exit rfl ?_ | refine y_ret ?_ | refine y_end ?_ | refine y_scope ?_ | refine y_inScope ?_)
          have hqi : setAt (qOf (onf rl B) (fun _ => 0) r) i (items i 0 k) i = items i 0 k := setAt_same _ _ _
          have hb5 := (Y5.out.fam.pq i (by omega)).2
          replace hqi := Keep.mk hqi
          replace hb5 := Keep.mk hb5
          refine y_callR rfl (by rfl) rfl rfl Try.func49 (by kernel_rfl) (by kernel_rfl) (Fam.send (v := 1000 * (i : Int) + (k : Int)) Y5.out.fam (x := i) (by omega) (by rw [hqi.out, Y5.out.room i (by omega), items_len]; omega) (by rw [hqi.out, items_len]; omega) (fun _ => rfl) hf.out) (by simp only [List.map_toArray, List.map_cons, List.map_nil] <;> rfl) ?_
          rintro _ σ'' w6 ⟨rfl, e2, F6, O6⟩
          rw [e2]; clear e2 σ''
          have Y6 : Body w w6 r (onf rl B) n i (i + 1) (k + 1) S' (IntKind.i64.wrap (d + 1)) sv := by
            refine Y5.out.sent ?_ O6 hb5.out
            rw [hqi.out, upd1_setAt, upd1_setAt, setAt_self _ _ rfl, setAt_setAt] at F6
            rw [items_snoc]
            have : ((1000 * i + k : Nat) : Int) = 1000 * (i : Int) + (k : Int) := by omega
            rw [this]
            exact F6
          clear F6 O6 hqi hb5 Y5
          replace Y6 := Keep.mk Y6
          walk_nrm
          repeat (first
            | refine y_seq ?_
            | (refine y_region ?_; simp only [List.size_toArray, List.length_cons, List.length_nil, Nat.reduceAdd, Nat.zero_add, List.range, List.range.loop])
            | refine y_regionEnd ?_
            | (refine y_nw rfl (by rfl) rfl (by first | exact nx_of rfl | exact nx_nil rfl rfl | exact nx_int rfl rfl rfl) (fun dd hS K hK => ?_); go_simp; refine hK _ _ _ ?_; clear hK K hS dd; simp only [recOf]; try walk_nrm)
            | (refine y_unwanted rfl (by rfl) ?_; try walk_nrm)
            | (refine y_cond true rfl ?_; simp only [if_true])
            | (refine y_cond false rfl ?_; simp only [Bool.false_eq_true, if_false])
            | refine y_skip ?_ | refine y_block ?_ | refine y_inBlock ?_ | refine y_label ?_ | refine y_exit rfl ?_ | refine y_ret ?_ | refine y_end ?_ | refine y_scope ?_ | refine y_inScope ?_)
          rw [show (k : Int) + 1 = ((k + 1 : Nat) : Int) by omega]
          exact IH.out _ _ _ _ (by have := ht'.out; omega) ⟨rfl, k + 1, _, rfl, by omega, (fun h => by rw [hon] at h; cases h), Y6.out, ⟨rfl, rfl, rfl, rfl, rfl, rfl, rfl, rfl, rfl, rfl, rfl, rfl, rfl, rfl, trivial⟩⟩
      · have hk' : ¬ (k : Int) < r := by omega
        have hkr' : k = r := by omega
        replace Y5 := Keep.mk Y5
        replace hk0 := Keep.mk hk0
        replace hkr' := Keep.mk hkr'
        repeat (first
          | refine y_seq ?_
          | (refine y_region ?_; simp only [List.size_toArray, List.length_cons, List.length_nil, Nat.reduceAdd, Nat.zero_add, List.range, List.range.loop])
          | refine y_regionEnd ?_
          | (refine y_nw rfl (by rfl) rfl (by first | exact nx_of rfl | exact nx_nil rfl rfl | exact nx_int rfl rfl rfl) (fun dd hS K hK => ?_); go_simp; refine hK _ _ _ ?_; clear hK K hS dd; simp only [recOf]; try walk_nrm)
          | (refine y_unwanted rfl (by rfl) ?_; try walk_nrm)
          | (refine y_cond true rfl ?_; simp only [if_true])
          | (refine y_cond false rfl ?_; simp only [Bool.false_eq_true, if_false])
          | refine y_skip ?_ | refine y_block ?_ | refine y_inBlock ?_ | refine y_label ?_ | refine y_exit rfl ?_ | refine y_ret ?_ | refine y_end ?_ | refine y_scope ?_ | refine y_inScope ?_)
        exact K.out _ _ _ ⟨rfl, k, d, by
          cases hon : onf rl B i
          · simp [hk0.out hon]
          · simp [hkr'.out], Y5.out, ⟨rfl, rfl, rfl, rfl, rfl, rfl, rfl, rfl, rfl, rfl, rfl, rfl, rfl, trivial⟩⟩
    clear Y5 w6
    rintro a σ w5 ⟨rfl, kk, d, hkk, Y5, hT⟩
    obtain ⟨j, rfl, h0', h1', h2', h3', h4', h5', h6', h7', h8', h9', h10', -⟩ := Tm.lit hT
    simp only at h0' h1' h2' h3' h4' h5' h6' h7' h8' h9' h10'
    simp only [List.range, List.range.loop, List.map_cons, List.map_nil, h0', h1', h2', h3', h4', h5', h6', h7', h8', h9', h10']
    clear h0' h1' h2' h3' h4' h5' h6' h7' h8' h9' h10' hT
    replace Y5 := Keep.mk Y5
    repeat (first
      | refine y_seq ?_
      | (refine y_region ?_; simp only [List.size_toArray, List.length_cons, List.length_nil, Nat.reduceAdd, Nat.zero_add, List.range, List.range.loop])
      | refine y_regionEnd ?_
      | (refine y_nw rfl (by rfl) rfl (by first | exact nx_of rfl | exact nx_nil rfl rfl | exact nx_int rfl rfl rfl) (fun dd hS K hK => ?_); go_simp; refine hK _ _ _ ?_; clear hK K hS dd; simp only [recOf]; try walk_nrm)
      | (refine y_unwanted rfl (by rfl) ?_; try walk_nrm)
      | (refine y_cond true rfl ?_; simp only [if_true])
      | (refine y_cond false rfl ?_; simp only [Bool.false_eq_true, if_false])
      | refine y_skip ?_ | refine y_block ?_ | refine y_inBlock ?_ | refine y_label ?_ | refine y_exit rfl ?_ | refine y_ret ?_ | refine y_end ?_ | refine y_scope ?_ | refine y_inScope ?_)
    have N6 := newO w5 (.cells #[.pointer (some ⟨(S' i).p, 0, none⟩), .bool false, .int .i64 0] 92)
    have n6 := cells_new w5 [.pointer (some ⟨(S' i).p, 0, none⟩), .bool false, .int .i64 0] 92
    generalize w5.alloc (.cells #[.pointer (some ⟨(S' i).p, 0, none⟩), .bool false, .int .i64 0] 92) = w6 at N6 n6 ⊢
    replace Y5 := Keep.out Y5
    replace hf := Keep.out hf
    replace hs := Keep.out hs
    replace IH := Keep.out IH
    have own6 := row_later Y5.own fun k hk => N6.old k (row_ty Y5.own hk).2.1
    have hz6 := N6.size
    obtain ⟨i0, hi, hz0, hz1, hz2⟩ := info_parts (P := Try.prog) (e := 92) (z := .agg #[.pointer none, .bool false, .int .i64 0]) (size := 3) (bytes := 24) (by kernel_rfl)
    refine y_append (size := 3) (bytes := 24) rfl (by rfl) rfl rfl Try.underlying86 hi hz0 hz1 hz2 rfl (by decide) (w.heap.size + 4) rfl own6 rfl rfl n6 (fun x hx => by simp at hx; rcases hx with rfl | rfl | rfl <;> rfl) (by unfold maxLen; omega) (by omega) (by have := Y5.size; omega) (fun i s e => by rw [hs] at e; cases e) fun sv' w7 own7 g7 hne7 hbl7 => ?_
    have ho7 : ∀ k, k < w5.heap.size → sv.ownBlock ≠ some k → w7.heap[k]? = w5.heap[k]? := fun k hk h => (g7.block k (by omega) fun e2 => h e2.symm).trans (N6.old k hk)
    have hsv : ∀ k, sv.ownBlock = some k → w.heap.size + 4 ≤ k := fun k hk => (row_ty own6 hk).1
    have lt5 : ∀ x, x < i + 1 → ∀ b, InS (S' x) b → b < w5.heap.size := fun x hx b hb => Y5.fam.lt hx hb
    have hz5 := Y5.size
    have L7 : Laying w w7 r (onf rl B) n (i + 1) S' d (qOf (onf rl B) (fun _ => 0) r) := by
      refine ⟨fun k hk => (ho7 k (by omega) fun h => by have := hsv k h; omega).trans (Y5.old k hk), ?_, ⟨(ho7 _ (by omega) fun h => by have := hsv _ h; omega).trans Y5.choice.obj, Y5.choice.tick.later (ho7 _ (by omega) fun h => by have := hsv _ h; omega)⟩, Y5.row.later (ho7 _ (by omega) fun h => by have := hsv _ h; omega), Y5.room, Y5.new⟩
      have F := Y5.fam.keep (ho7 _ (by omega) fun h => by have := hsv _ h; omega) fun x hx b hb => ho7 b (lt5 x hx b hb) fun h => Y5.apart b h x hx hb
      rwa [setAt_self] at F
      rw [hkk]
      unfold qOf
      split
      · rfl
      · exact (items_nil _ (by omega)).symm
    have R7 : LRow w w7 (i + 1) S' sv' := by
      refine ⟨?_, fun h => by omega, fun b hb x hx hi => ?_⟩
      · have hS : casesOf S' (i + 1) = casesOf S' i ++ [(.pointer (some ⟨(S' i).p, 0, none⟩), false, 0)] := by
          have := casesOf_more S' i (S' i)
          rwa [setAt_self _ _ rfl] at this
        rw [hS, flat3_app]; exact own7
      · rcases hbl7 with h | h
        · exact Y5.apart b (h ▸ hb) x hx hi
        · have := lt5 x hx b hi
          rw [hb] at h
          have := Option.some.inj h
          omega
    clear Y5 own6 hz6 hi hz0 hz1 hz2 own7 g7 hne7 hbl7 ho7 hsv lt5 hz5 N6 n6
    have ew3 : IntKind.i64.wrap ((i : Int) + 1) = (i : Int) + 1 := wrap_small (by omega) (by omega)
    replace L7 := Keep.mk L7
    replace R7 := Keep.mk R7
    replace hf := Keep.mk hf
    replace hs := Keep.mk hs
    replace IH := Keep.mk IH
    walk_nrm
    repeat (first
      | refine y_seq ?_
      | (refine y_region ?_; simp only [List.size_toArray, List.length_cons, List.length_nil, Nat.reduceAdd, Nat.zero_add, List.range, List.range.loop])
      | refine y_regionEnd ?_
      | (refine y_nw rfl (by rfl) rfl (by first | exact nx_of rfl | exact nx_nil rfl rfl | exact nx_int rfl rfl rfl) (fun dd hS K hK => ?_); go_simp; refine hK _ _ _ ?_; clear hK K hS dd; simp only [recOf]; try walk_nrm)
      | (refine y_unwanted rfl (by rfl) ?_; try walk_nrm)
      | (refine y_cond true rfl ?_; simp only [if_true])
      | (refine y_cond false rfl ?_; simp only [Bool.false_eq_true, if_false])
      | refine y_skip ?_ | refine y_block ?_ | refine y_inBlock ?_ | refine y_label ?_ | refine y_exit rfl ?_ | refine y_ret ?_ | refine y_end ?_ | refine y_scope ?_ | refine y_inScope ?_)
    rw [show (i : Int) + 1 = ((i + 1 : Nat) : Int) by omega]
    exact IH.out _ _ _ _ (by have := ht.out; omega) ⟨rfl, i + 1, S', d, sv', rfl, by omega, L7.out, R7.out, ⟨rfl, rfl, rfl, rfl, rfl, rfl, rfl, rfl, rfl, rfl, rfl, rfl, trivial⟩⟩
  · have e1 : ¬ (i : Int) < n := by omega
    have hi : n = i := by omega
    subst hi
    clear IH ht hin e
    replace L := Keep.mk L
    replace R := Keep.mk R
    repeat (first
      | refine y_seq ?_
      | (refine y_region ?_; simp only [List.size_toArray, List.length_cons, List.length_nil, Nat.reduceAdd, Nat.zero_add, List.range, List.range.loop])
      | refine y_regionEnd ?_
      | (refine y_nw rfl (by rfl) rfl (by first | exact nx_of rfl | exact nx_nil rfl rfl | exact nx_int rfl rfl rfl) (fun dd hS K hK => ?_); go_simp; refine hK _ _ _ ?_; clear hK K hS dd; simp only [recOf]; try walk_nrm)
      | (refine y_unwanted rfl (by rfl) ?_; try walk_nrm)
      | (refine y_cond true rfl ?_; simp only [if_true])
      | (refine y_cond false rfl ?_; simp only [Bool.false_eq_true, if_false])
      | refine y_skip ?_ | refine y_block ?_ | refine y_inBlock ?_ | refine y_label ?_ | refine y_exit rfl ?_ | refine y_ret ?_ | refine y_end ?_ | refine y_scope ?_ | refine y_inScope ?_)
    have hrow3 : Row w3 (w.heap.size + 3) 4 n fun x => .bool (onf rl B x) := by
      have h := L.out.row
      unfold Row at h ⊢
      rw [h]
      congr 3
      apply List.map_congr_left
      intro x hx
      simp [List.mem_range.1 hx]
    obtain ⟨l, cap, hsv, hl, hcases, cur, hcur⟩ := cases_of_row (cs := casesOf S n) (by rw [casesOf_len]; exact R.out.own) (by rw [casesOf_len]; exact hn1)
    rw [casesOf_len] at hsv
    subst hsv
    replace L := Keep.out L
    have W3 : Wk w3 w.heap.size (w.heap.size + 1 + 1) (w.heap.size + 1) l cap n 0 d S (casesOf S n) (fun _ => 0) (qOf (onf rl B) (fun _ => 0) r) := by
      refine ⟨L.fam, L.choice, ⟨hn1, by omega, hcases, casesOf_len S n, fun x hx => ⟨0, casesOf_get S hx⟩, fun x hx => ?_⟩, ⟨by omega, fun x hx hc => by have := L.new x hx _ (.inr (.inr hc)); omega⟩⟩
      unfold qOf
      split
      · rw [items_len]; omega
      · simp
    have PL : Places w n w3.heap.size l S := ⟨fun x hx b hb => ⟨L.new x hx b hb, L.fam.lt hx hb⟩, by omega, lt_of_get hcur⟩
    have hN := L.row.lt
    have hold3 := L.old
    clear L R hcases hcur hl
    obtain ⟨i4, hi, hz0, hz1, hz2⟩ := info_parts (P := Try.prog) (e := 3) (z := .int .i64 0) (size := 1) (bytes := 8) (by kernel_rfl)
    refine y_makeSlice (n := n) rfl (by rfl) rfl rfl rfl rfl Try.underlying24 hi hz0 (by rw [hz2]; omega) (by unfold maxLen; omega) ?_
    have rw4 := row_made (w := w3) (n := n) (e := 3) (z := .int .i64 0) rfl hz1
    have g34 : (w3.alloc (.cells (madeCells (Value.int .i64 0).cells (n * i4.size)) 3)).heap.size = w3.heap.size + 1 ∧ ∀ c, c < w3.heap.size → (w3.alloc (.cells (madeCells (Value.int .i64 0).cells (n * i4.size)) 3)).heap[c]? = w3.heap[c]? := ⟨(newO _ _).size, (newO _ _).old⟩
    generalize w3.alloc (.cells (madeCells (Value.int .i64 0).cells (n * i4.size)) 3) = w4 at rw4 g34 ⊢
    clear hi hz0 hz1 hz2 i4
    walk_nrm
    obtain ⟨g341, g342⟩ := g34
    replace W3 := Keep.mk W3
    replace PL := Keep.mk PL
    replace hold3 := Keep.mk hold3
    replace hrow3 := Keep.mk hrow3
    replace rw4 := Keep.mk rw4
    replace g341 := Keep.mk g341
    replace g342 := Keep.mk g342
    repeat (first
      | refine y_seq ?_
      | (refine y_region ?_; simp only [List.size_toArray, List.length_cons, List.length_nil, Nat.reduceAdd, Nat.zero_add, List.range, List.range.loop])
      | refine y_regionEnd ?_
      | (refine y_nw rfl (by rfl) rfl (by first | exact nx_of rfl | exact nx_nil rfl rfl | exact nx_int rfl rfl rfl) (fun dd hS K hK => ?_); go_simp; refine hK _ _ _ ?_; clear hK K hS dd; simp only [recOf]; try walk_nrm)
      | (refine y_unwanted rfl (by rfl) ?_; try walk_nrm)
      | (refine y_cond true rfl ?_; simp only [if_true])
      | (refine y_cond false rfl ?_; simp only [Bool.false_eq_true, if_false])
      | refine y_skip ?_ | refine y_block ?_ | refine y_inBlock ?_ | refine y_label ?_ | refine y_exit rfl ?_ | refine y_ret ?_ | refine y_end ?_ | refine y_scope ?_ | refine y_inScope ?_)
    obtain ⟨i4, hi, hz0, hz1, hz2⟩ := info_parts (P := Try.prog) (e := 2) (z := .int .i64 0) (size := 1) (bytes := 8) (by kernel_rfl)
    refine y_makeSlice (n := n) rfl (by rfl) rfl rfl rfl rfl Try.underlying22 hi hz0 (by rw [hz2]; omega) (by unfold maxLen; omega) ?_
    have rw5 := row_made (w := w4) (n := n) (e := 2) (z := .int .i64 0) rfl hz1
    have g45 : (w4.alloc (.cells (madeCells (Value.int .i64 0).cells (n * i4.size)) 2)).heap.size = w4.heap.size + 1 ∧ ∀ c, c < w4.heap.size → (w4.alloc (.cells (madeCells (Value.int .i64 0).cells (n * i4.size)) 2)).heap[c]? = w4.heap[c]? := ⟨(newO _ _).size, (newO _ _).old⟩
    generalize w4.alloc (.cells (madeCells (Value.int .i64 0).cells (n * i4.size)) 2) = w5 at rw5 g45 ⊢
    clear hi hz0 hz1 hz2 i4
    replace g341 := Keep.out g341
    replace g342 := Keep.out g342
    replace W3 := Keep.out W3
    replace PL := Keep.out PL
    replace hold3 := Keep.out hold3
    replace hrow3 := Keep.out hrow3
    replace rw4 := Keep.out rw4
    rw [g341] at rw5 ⊢
    obtain ⟨N, hNe⟩ : ∃ N, N = w3.heap.size := ⟨_, rfl⟩
    rw [← hNe] at rw4 rw5 PL hN g341 g342 ⊢
    have ho5 : ∀ b, b < N → w5.heap[b]? = w3.heap[b]? := fun b hb => (g45.2 b (by omega)).trans (g342 b (by omega))
    have G5 : Going w w5 r (onf rl B) n 0 N l cap S (fun _ => 0) (fun _ => 0) := by
      refine ⟨fun b hb => (ho5 b (by omega)).trans (hold3 b hb), by omega, ⟨d, _, W3.under (N := N) (fun x hx b hb => (PL.ins x hx b hb).2) (by omega) (by omega) (by omega) PL.l.2 ho5⟩, hrow3.later (ho5 _ (by omega)), rw4.later (g45.2 _ (by omega)), rw5, fun _ => by omega, fun _ => by omega, fun _ _ _ => by omega⟩
    clear W3 hold3 hrow3 rw4 g341 g342 rw5 g45 ho5 hNe w3 w4 d
    walk_nrm
    replace G5 := Keep.mk G5
    replace PL := Keep.mk PL
    replace hN := Keep.mk hN
    repeat (first
      | refine y_seq ?_
      | (refine y_region ?_; simp only [List.size_toArray, List.length_cons, List.length_nil, Nat.reduceAdd, Nat.zero_add, List.range, List.range.loop])
      | refine y_regionEnd ?_
      | (refine y_nw rfl (by rfl) rfl (by first | exact nx_of rfl | exact nx_nil rfl rfl | exact nx_int rfl rfl rfl) (fun dd hS K hK => ?_); go_simp; refine hK _ _ _ ?_; clear hK K hS dd; simp only [recOf]; try walk_nrm)
      | (refine y_unwanted rfl (by rfl) ?_; try walk_nrm)
      | (refine y_cond true rfl ?_; simp only [if_true])
      | (refine y_cond false rfl ?_; simp only [Bool.false_eq_true, if_false])
      | refine y_skip ?_ | refine y_inBlock ?_ | refine y_label ?_ | refine y_exit rfl ?_ | refine y_ret ?_ | refine y_end ?_ | refine y_scope ?_ | refine y_inScope ?_)
    refine y_cut (fun a σ' w6 => σ' = σ ∧ ∃ k nx sc, k < 60 ∧ Going w w6 r (onf rl B) n k N l cap S nx sc ∧
      Tm a 202 [(0, .int .i64 n), (6, .bool false), (8, .pointer (some ⟨w.heap.size + 1 + 1, 0, none⟩)), (9, .slice (some ⟨l, 0, none⟩) n cap)]) (fun kk K => ?_) ?_
    · clear H
      replace K := Keep.mk K
      repeat (first
        | refine y_seq ?_
        | (refine y_region ?_; simp only [List.size_toArray, List.length_cons, List.length_nil, Nat.reduceAdd, Nat.zero_add, List.range, List.range.loop])
        | refine y_regionEnd ?_
        | (refine y_nw rfl (by rfl) rfl (by first | exact nx_of rfl | exact nx_nil rfl rfl | exact nx_int rfl rfl rfl) (fun dd hS K hK => ?_); go_simp; refine hK _ _ _ ?_; clear hK K hS dd; simp only [recOf]; try walk_nrm)
        | (refine y_unwanted rfl (by rfl) ?_; try walk_nrm)
        | (refine y_cond true rfl ?_; simp only [if_true])
        | (refine y_cond false rfl ?_; simp only [Bool.false_eq_true, if_false])
        | refine y_skip ?_ | refine y_block ?_ | refine y_inBlock ?_ | refine y_label ?_ | refine y_exit rfl ?_ | refine y_ret ?_ | refine y_end ?_ | refine y_scope ?_ | refine y_inScope ?_)
      generalize hso : someOn (onf rl B) n = s1
      refine y_loopI (fun t a σ' w7 => σ' = σ ∧ ∃ (k : Nat) (nx sc : Nat → Nat), t = r - k ∧ k ≤ r ∧ Going w w7 r (onf rl B) n k N l cap S nx sc ∧
      Tm a 202 [(0, .int .i64 n), (1, .int .i64 r), (6, .bool false), (8, .pointer (some ⟨w.heap.size + 1 + 1, 0, none⟩)), (9, .slice (some ⟨l, 0, none⟩) n cap), (10, .slice (some ⟨w.heap.size + 3, 0, none⟩) n n), (11, .bool s1), (16, .slice (some ⟨N, 0, none⟩) n n), (17, .slice (some ⟨N + 1, 0, none⟩) n n), (18, .int .i64 (k : Int))]) r
        ⟨rfl, 0, _, _, by omega, by omega, G5.out, ⟨rfl, rfl, rfl, rfl, rfl, rfl, rfl, rfl, rfl, rfl, rfl, rfl, trivial⟩⟩ ?_
      clear G5 w5
      rintro t' IH a σ w5 ⟨rfl, k, nx, sc, ht', hkr, G, hT⟩
      obtain ⟨j, rfl, h0', h1', h2', h3', h4', h5', h6', h7', h8', h9', -⟩ := Tm.lit hT
      simp only at h0' h1' h2' h3' h4' h5' h6' h7' h8' h9'
      simp only [List.range, List.range.loop, List.map_cons, List.map_nil, h0', h1', h2', h3', h4', h5', h6', h7', h8', h9']
      clear h0' h1' h2' h3' h4' h5' h6' h7' h8' h9' hT
      by_cases hk : k < r
      · have hk' : (k : Int) < r := by omega
        replace IH := Keep.mk IH
        replace G := Keep.mk G
        replace ht' := Keep.mk ht'
        replace hkr := Keep.mk hkr
        cases s1
        · repeat (first
            | refine y_seq ?_
            | (refine y_region ?_; simp only [List.size_toArray, List.length_cons, List.length_nil, Nat.reduceAdd, Nat.zero_add, List.range, List.range.loop])
            | refine y_regionEnd ?_
            | (refine y_nw rfl (by rfl) rfl (by first | exact nx_of rfl | exact nx_nil rfl rfl | exact nx_int rfl rfl rfl) (fun dd hS K hK => ?_); go_simp; refine hK _ _ _ ?_; clear hK K hS dd; simp only [recOf]; try walk_nrm)
            | (refine y_unwanted rfl (by rfl) ?_; try walk_nrm)
            | (refine y_cond true rfl ?_; simp only [if_true])
            | (refine y_cond false rfl ?_; simp only [Bool.false_eq_true, if_false])
            | refine y_skip ?_ | refine y_block ?_ | refine y_inBlock ?_ | refine y_label ?_ | refine y_exit rfl ?_ | refine y_ret ?_ | refine y_end ?_ | refine y_scope ?_ | refine y_inScope ?_)
          exact K.out _ _ _ ⟨rfl, k, nx, sc, by omega, G.out, ⟨rfl, rfl, rfl, rfl, rfl, rfl, trivial⟩⟩
        · obtain ⟨x0, hx0, hon0⟩ := someOn_ex hso
          clear hso
          repeat (first
            | refine y_seq ?_
            | (refine y_region ?_; simp only [List.size_toArray, List.length_cons, List.length_nil, Nat.reduceAdd, Nat.zero_add, List.range, List.range.loop])
            | refine y_regionEnd ?_
            | (refine y_nw rfl (by rfl) rfl (by first | exact nx_of rfl | exact nx_nil rfl rfl | exact nx_int rfl rfl rfl) (fun dd hS K hK => ?_); go_simp; refine hK _ _ _ ?_; clear hK K hS dd; simp only [recOf]; try walk_nrm)
            | (refine y_unwanted rfl (by rfl) ?_; try walk_nrm)
            | (refine y_cond true rfl ?_; simp only [if_true])
            | (refine y_cond false rfl ?_; simp only [Bool.false_eq_true, if_false])
            | refine y_skip ?_ | refine y_block ?_ | refine y_inBlock ?_ | refine y_label ?_ | refine y_exit rfl ?_ | refine y_ret ?_ | refine y_end ?_ | refine y_scope ?_ | refine y_inScope ?_)
          replace G := Keep.out G
          obtain ⟨d, o, W⟩ := G.wk
          have hex : ∃ x, x < n ∧ qOf (onf rl B) nx r x ≠ [] := ⟨x0, hx0, qOf_ne hon0 (by have := G.nxle x0; omega)⟩
          replace hex := Keep.mk hex
          refine y_callR rfl (by rfl) rfl rfl Try.func46 (by kernel_rfl) (by kernel_rfl) (W.select (fun _ => rfl) (by omega) hex.out hf.out) (by simp only [List.map_toArray, List.map_cons, List.map_nil] <;> rfl) ?_
          rintro _ σ'' w6 ⟨e2, hz6, ho6, y, v, qs, hy, hq, ⟨jj, hj, hyj, hno⟩, rfl, W6⟩
          rw [e2]; clear e2 σ''
          obtain ⟨hony, hlty, hv, hset⟩ := qOf_cons hq
          rw [upd1_setAt, upd1_setAt, hset] at W6
          have hv' : v = 1000 * (y : Int) + (nx y : Int) := by rw [hv]; omega
          subst hv'
          have keep6 : ∀ b, b < w5.heap.size → (b ≤ w.heap.size + 3 ∨ N ≤ b) → b ≠ w.heap.size → b ≠ w.heap.size + 1 → w6.heap[b]? = w5.heap[b]? := fun b h1 h2 h3 h4 => ho6 b h1 (fun x hx hc => by have := PL.out.ins x hx b (.inr (.inr hc)); omega) h3 h4
          have hz5 := G.size
          have hNo := hN.out
          have hfair : ∀ x, x < n → onf rl B x = true → (if x = y then 0 else sc x + 1) ≤ dist n (k + 1) x := fun x hx hon => by
            split
            · omega
            · rename_i hxy
              have hne : k % n ≠ x := fun hkx => by
                by_cases hj0 : jj = 0
                · subst hj0; rw [Nat.add_zero, Nat.mod_mod, hkx] at hyj; exact hxy hyj.symm
                · have := hno 0 (by omega)
                  rw [Nat.add_zero, Nat.mod_mod, hkx] at this
                  exact qOf_ne hon (by have := G.nxle x; omega) this
              rw [← dist_succ hx hne]
              have := G.fair x hx hon
              omega
          have row6 := G.row.later (keep6 _ (by omega) (by omega) (by omega) (by omega))
          have since6 := G.since.later (keep6 N (by omega) (by omega) (by omega) (by omega))
          have next6 := G.next.later (keep6 (N + 1) (by omega) (by omega) (by omega) (by omega))
          have old6 : ∀ b, b < w.heap.size → w6.heap[b]? = w.heap[b]? := fun b hb => (keep6 b (by omega) (by omega) (by omega) (by omega)).trans (G.old b hb)
          have hsz6 : N + 2 ≤ w6.heap.size := by omega
          have nxle := G.nxle
          have scle := G.scle
          clear W G hex hq hv hset hno hyj keep6 ho6 hz6 hz5
          have hcon : w6.cell? ⟨w.heap.size + 3, y, none⟩ = some (.bool true) := (row6.get hy).trans (by rw [hony])
          have hcn : w6.cell? ⟨N + 1, y, none⟩ = some (.int .i64 (nx y : Int)) := next6.get hy
          have ny : nx y < 60 := by omega
          have y1 : (y : Int) < (n : Int) := by omega
          have y2 : ¬ (n : Int) ≤ (y : Int) := by omega
          have y3 : (0 : Int) ≤ (y : Int) := by omega
          have ew1 : IntKind.i64.wrap (1000 * (y : Int)) = 1000 * (y : Int) := wrap_small (by omega) (by omega)
          have ew2 : IntKind.i64.wrap (1000 * (y : Int) + (nx y : Int)) = 1000 * (y : Int) + (nx y : Int) := wrap_small (by omega) (by omega)
          have ew3 : IntKind.i64.wrap ((nx y : Int) + 1) = (nx y : Int) + 1 := wrap_small (by omega) (by omega)
          have hr6 : w6.heap[N + 1]? = some (.cells ((List.range n).map fun x => Value.int .i64 (nx x : Int)).toArray 2) := next6
          replace W6 := Keep.mk W6
          replace row6 := Keep.mk row6
          replace since6 := Keep.mk since6
          replace next6 := Keep.mk next6
          replace old6 := Keep.mk old6
          replace nxle := Keep.mk nxle
          replace scle := Keep.mk scle
          replace hfair := Keep.mk hfair
          replace hr6 := Keep.mk hr6
          walk_nrm
          repeat (first
            | refine y_seq ?_
            | (refine y_region ?_; simp only [List.size_toArray, List.length_cons, List.length_nil, Nat.reduceAdd, Nat.zero_add, List.range, List.range.loop])
            | refine y_regionEnd ?_
            | (refine y_nw rfl (by rfl) rfl (by first | exact nx_of rfl | exact nx_nil rfl rfl | exact nx_int rfl rfl rfl) (fun dd hS K hK => ?_); go_simp; refine hK _ _ _ ?_; clear hK K hS dd; simp only [recOf]; try walk_nrm)
            | (refine y_unwanted rfl (by rfl) ?_; try walk_nrm)
            | (refine y_cond true rfl ?_; simp only [if_true])
            | (refine y_cond false rfl ?_; simp only [Bool.false_eq_true, if_false])
            | refine y_skip ?_ | refine y_block ?_ | refine y_inBlock ?_ | refine y_label ?_ | refine y_exit rfl ?_ | refine y_ret ?_ | refine y_end ?_ | refine y_scope ?_ | refine y_inScope ?_)
          have fz' := frozen_of (i := y) hr6.out
          (refine y_store rfl (by rfl) rfl rfl rfl hcn (hf.out _) (fun dd hS K hK => ?_); go_simp; refine hK _ _ _ ?_; clear hK K hS dd; simp only [recOf]; try walk_nrm)
          clear fz'
          have S7 := setO (i := y) hr6.out (.int .i64 ((nx y : Int) + 1))
          generalize World.setCell _ _ _ = w7 at S7 ⊢
          replace W6 := Keep.out W6
          replace row6 := Keep.out row6
          replace since6 := Keep.out since6
          replace next6 := Keep.out next6
          replace old6 := Keep.out old6
          have next7 : Row w7 (N + 1) 2 n fun x => .int .i64 (setAt nx y (nx y + 1) x : Nat) := Row.put S7 fun i hi => by
            by_cases e : i = y
            · subst e; simp only [setAt_same]; congr 1
            · simp only [setAt_ne _ _ e]
          have ho7 : ∀ b, b ≠ N + 1 → w7.heap[b]? = w6.heap[b]? := S7.other
          have hNo := hN.out
          have W7 := W6.under (w' := w7) (N := N) (fun x hx b hb => (PL.out.ins x hx b hb).2) (by omega) (by omega) (by omega) PL.out.l.2 (fun b hb => ho7 b (by omega))
          have row7 := row6.later (ho7 _ (by omega))
          have since7 := since6.later (ho7 N (by omega))
          have old7 : ∀ b, b < w.heap.size → w7.heap[b]? = w.heap[b]? := fun b hb => (ho7 b (by omega)).trans (old6 b hb)
          have hsz7 : N + 2 ≤ w7.heap.size := by rw [S7.size]; exact hsz6
          clear W6 row6 since6 next6 old6 S7 hr6 hcn hcon ho7 hsz6 ew1 ew2 ew3
          replace W7 := Keep.mk W7
          replace row7 := Keep.mk row7
          replace since7 := Keep.mk since7
          replace next7 := Keep.mk next7
          replace old7 := Keep.mk old7
          replace hsz7 := Keep.mk hsz7
          replace hNo := Keep.mk hNo
          repeat (first
            | refine y_seq ?_
            | (refine y_region ?_; simp only [List.size_toArray, List.length_cons, List.length_nil, Nat.reduceAdd, Nat.zero_add, List.range, List.range.loop])
            | refine y_regionEnd ?_
            | (refine y_nw rfl (by rfl) rfl (by first | exact nx_of rfl | exact nx_nil rfl rfl | exact nx_int rfl rfl rfl) (fun dd hS K hK => ?_); go_simp; refine hK _ _ _ ?_; clear hK K hS dd; simp only [recOf]; try walk_nrm)
            | (refine y_unwanted rfl (by rfl) ?_; try walk_nrm)
            | (refine y_cond true rfl ?_; simp only [if_true])
            | (refine y_cond false rfl ?_; simp only [Bool.false_eq_true, if_false])
            | refine y_skip ?_ | refine y_inBlock ?_ | refine y_label ?_ | refine y_exit rfl ?_ | refine y_ret ?_ | refine y_end ?_ | refine y_scope ?_ | refine y_inScope ?_)
          refine y_cut (fun a σ' w8 => σ' = σ ∧ (∀ b, b ≠ N → w8.heap[b]? = w7.heap[b]?) ∧ w8.heap.size = w7.heap.size ∧ Row w8 N 3 n (fun x => .int .i64 ((if x = y then 0 else sc x + 1 : Nat) : Int)) ∧
            Tm a 202 [(0, .int .i64 n), (1, .int .i64 r), (6, .bool false), (8, .pointer (some ⟨w.heap.size + 1 + 1, 0, none⟩)), (9, .slice (some ⟨l, 0, none⟩) n cap), (10, .slice (some ⟨w.heap.size + 3, 0, none⟩) n n), (11, .bool true), (16, .slice (some ⟨N, 0, none⟩) n n), (17, .slice (some ⟨N + 1, 0, none⟩) n n), (18, .int .i64 (k : Int))]) (fun kk K => ?_) ?_
          · clear IH
            replace K := Keep.mk K
            repeat (first
              | refine y_seq ?_
              | (refine y_region ?_; simp only [List.size_toArray, List.length_cons, List.length_nil, Nat.reduceAdd, Nat.zero_add, List.range, List.range.loop])
              | refine y_regionEnd ?_
              | (refine y_nw rfl (by rfl) rfl (by first | exact nx_of rfl | exact nx_nil rfl rfl | exact nx_int rfl rfl rfl) (fun dd hS K hK => ?_); go_simp; refine hK _ _ _ ?_; clear hK K hS dd; simp only [recOf]; try walk_nrm)
              | (refine y_unwanted rfl (by rfl) ?_; try walk_nrm)
              | (refine y_cond true rfl ?_; simp only [if_true])
              | (refine y_cond false rfl ?_; simp only [Bool.false_eq_true, if_false])
              | refine y_skip ?_ | refine y_block ?_ | refine y_inBlock ?_ | refine y_label ?_ | refine y_exit rfl ?_ | refine y_ret ?_ | refine y_end ?_ | refine y_scope ?_ | refine y_inScope ?_)
            refine y_loopI (fun t a σ' w8 => σ' = σ ∧ ∃ m : Nat, t = n - m ∧ m ≤ n ∧ (∀ b, b ≠ N → w8.heap[b]? = w7.heap[b]?) ∧ w8.heap.size = w7.heap.size ∧ Row w8 N 3 n (fun x => .int .i64 ((if x < m then (if x = y then 0 else sc x + 1) else sc x : Nat) : Int)) ∧
              Tm a 202 [(0, .int .i64 n), (1, .int .i64 r), (6, .bool false), (8, .pointer (some ⟨w.heap.size + 1 + 1, 0, none⟩)), (9, .slice (some ⟨l, 0, none⟩) n cap), (10, .slice (some ⟨w.heap.size + 3, 0, none⟩) n n), (11, .bool true), (16, .slice (some ⟨N, 0, none⟩) n n), (17, .slice (some ⟨N + 1, 0, none⟩) n n), (18, .int .i64 (k : Int)), (19, .int .i64 (y : Int)), (23, .int .i64 (m : Int))]) n
              ⟨rfl, 0, by omega, by omega, fun _ _ => rfl, rfl, since7.out.congr fun x _ => by simp, ⟨rfl, rfl, rfl, rfl, rfl, rfl, rfl, rfl, rfl, rfl, rfl, rfl, rfl, rfl, trivial⟩⟩ ?_
            rintro t'' IH a σ w8 ⟨rfl, m, ht'', hmn, ho8, hz8, R8, hT⟩
            obtain ⟨j, rfl, h0', h1', h2', h3', h4', h5', h6', h7', h8', h9', h10', h11', -⟩ := Tm.lit hT
            simp only at h0' h1' h2' h3' h4' h5' h6' h7' h8' h9' h10' h11'
            simp only [List.range, List.range.loop, List.map_cons, List.map_nil, h0', h1', h2', h3', h4', h5', h6', h7', h8', h9', h10', h11']
            clear h0' h1' h2' h3' h4' h5' h6' h7' h8' h9' h10' h11' hT
            by_cases hm : m < n
            · have hm' : (m : Int) < n := by omega
              have hcs8 : w8.cell? ⟨N, m, none⟩ = some (.int .i64 (sc m : Int)) := (R8.get hm).trans (by simp)
              have hr8 : w8.heap[N]? = some (.cells ((List.range n).map fun x => Value.int .i64 ((if x < m then (if x = y then 0 else sc x + 1) else sc x : Nat) : Int)).toArray 3) := R8
              have hcon : w8.cell? ⟨w.heap.size + 3, m, none⟩ = some (.bool (onf rl B m)) := (cell?_of_block (ho8 _ (by have := hNo.out; show w.heap.size + 3 ≠ N; omega))).trans (row7.out.get hm)
              have hsm := scle.out m
              have ew1 : IntKind.i64.wrap ((sc m : Int) + 1) = (sc m : Int) + 1 := wrap_small (by omega) (by omega)
              have ew2 : IntKind.i64.wrap ((m : Int) + 1) = (m : Int) + 1 := wrap_small (by omega) (by omega)
              replace IH := Keep.mk IH
              replace ho8 := Keep.mk ho8
              replace hz8 := Keep.mk hz8
              replace R8 := Keep.mk R8
              replace hr8 := Keep.mk hr8
              replace ht'' := Keep.mk ht''
              replace hcon := Keep.mk hcon
              replace hmn := Keep.mk hmn
              repeat (first
                | refine y_seq ?_
                | (refine y_region ?_; simp only [List.size_toArray, List.length_cons, List.length_nil, Nat.reduceAdd, Nat.zero_add, List.range, List.range.loop])
                | refine y_regionEnd ?_
                | (refine y_nw rfl (by rfl) rfl (by first | exact nx_of rfl | exact nx_nil rfl rfl | exact nx_int rfl rfl rfl) (fun dd hS K hK => ?_); go_simp; refine hK _ _ _ ?_; clear hK K hS dd; simp only [recOf]; try walk_nrm)
                | (refine y_unwanted rfl (by rfl) ?_; try walk_nrm)
                | (refine y_cond true rfl ?_; simp only [if_true])
                | (refine y_cond false rfl ?_; simp only [Bool.false_eq_true, if_false])
                | refine y_skip ?_ | refine y_block ?_ | refine y_inBlock ?_ | refine y_label ?_ | refine y_exit rfl ?_ | refine y_ret ?_ | refine y_end ?_ | refine y_scope ?_ | refine y_inScope ?_)
              have fz' := frozen_of (i := m) hr8.out
              (refine y_store rfl (by rfl) rfl rfl rfl hcs8 (hf.out _) (fun dd hS K hK => ?_); go_simp; refine hK _ _ _ ?_; clear hK K hS dd; simp only [recOf]; try walk_nrm)
              clear fz'
              have S9 := setO (i := m) hr8.out (.int .i64 ((sc m : Int) + 1))
              generalize World.setCell _ _ _ = w9 at S9 ⊢
              have R9 : Row w9 N 3 n (setAt (fun x => Value.int .i64 ((if x < m then (if x = y then 0 else sc x + 1) else sc x : Nat) : Int)) m (.int .i64 ((sc m : Int) + 1))) := Row.put S9 fun _ _ => rfl
              have ho9 : ∀ b, b ≠ N → w9.heap[b]? = w7.heap[b]? := fun b hb => (S9.other b hb).trans (ho8.out b hb)
              have hz9 : w9.heap.size = w7.heap.size := S9.size.trans hz8.out
              have hcs : w9.cell? ⟨N, m, none⟩ = some (.int .i64 ((sc m : Int) + 1)) := (R9.get hm).trans (by simp)
              have hcon9 : w9.cell? ⟨w.heap.size + 3, m, none⟩ = some (.bool (onf rl B m)) := (cell?_of_block (S9.other _ (by have := hNo.out; show w.heap.size + 3 ≠ N; omega))).trans hcon.out
              clear hcon S9 hr8 R8 ho8 hz8 hcs8 w8
              replace R9 := Keep.mk R9
              replace ho9 := Keep.mk ho9
              replace hz9 := Keep.mk hz9
              replace hcon9 := Keep.mk hcon9
              by_cases hmy : m = y
              · subst hmy
                repeat (first
                  | refine y_seq ?_
                  | (refine y_region ?_; simp only [List.size_toArray, List.length_cons, List.length_nil, Nat.reduceAdd, Nat.zero_add, List.range, List.range.loop])
                  | refine y_regionEnd ?_
                  | (refine y_nw rfl (by rfl) rfl (by first | exact nx_of rfl | exact nx_nil rfl rfl | exact nx_int rfl rfl rfl) (fun dd hS K hK => ?_); go_simp; refine hK _ _ _ ?_; clear hK K hS dd; simp only [recOf]; try walk_nrm)
                  | (refine y_unwanted rfl (by rfl) ?_; try walk_nrm)
                  | (refine y_cond true rfl ?_; simp only [if_true])
                  | (refine y_cond false rfl ?_; simp only [Bool.false_eq_true, if_false])
                  | refine y_skip ?_ | refine y_block ?_ | refine y_inBlock ?_ | refine y_label ?_ | refine y_exit rfl ?_ | refine y_ret ?_ | refine y_end ?_ | refine y_scope ?_ | refine y_inScope ?_)
                have hr9 : w9.heap[N]? = some (.cells ((List.range n).map (setAt (fun x => Value.int .i64 ((if x < m then (if x = m then 0 else sc x + 1) else sc x : Nat) : Int)) m (.int .i64 ((sc m : Int) + 1)))).toArray 3) := R9.out
                have hcs' := hcs
                clear hcs
                have fz' := frozen_of (i := m) hr9
                (refine y_store rfl (by rfl) rfl rfl rfl hcs' (hf.out _) (fun dd hS K hK => ?_); go_simp; refine hK _ _ _ ?_; clear hK K hS dd; simp only [recOf]; try walk_nrm)
                clear fz'
                have Sa := setO (i := m) hr9 (.int .i64 0)
                generalize World.setCell _ _ _ = wa at Sa ⊢
                clear hr9 hcs'
                have hNo' := hNo.out
                have hcon : wa.cell? ⟨w.heap.size + 3, m, none⟩ = some (.bool (onf rl B m)) := (cell?_of_block (Sa.other _ (by show w.heap.size + 3 ≠ N; omega))).trans hcon9.out
                have R10 : Row wa N 3 n (fun x => .int .i64 ((if x < m + 1 then (if x = m then 0 else sc x + 1) else sc x : Nat) : Int)) := Row.put Sa fun x hx => by
                  by_cases e : x = m
                  · subst e; simp
                  · rw [setAt_ne _ _ e, setAt_ne _ _ e]
                    by_cases e2 : x < m
                    · simp [e2, show x < m + 1 by omega]
                    · simp [e2, show ¬ x < m + 1 by omega]
                have hca : wa.cell? ⟨N, m, none⟩ = some (.int .i64 0) := (R10.get hm).trans (by simp)
                have hoa : ∀ b, b ≠ N → wa.heap[b]? = w7.heap[b]? := fun b hb => (Sa.other b hb).trans (ho9.out b hb)
                have hza : wa.heap.size = w7.heap.size := Sa.size.trans hz9.out
                have hn0 : ¬ ((n : Int) ≤ 0) := by omega
                have hn0' : ¬ n = 0 := by omega
                clear R9 ho9 hz9 hcon9 Sa w9
                replace R10 := Keep.mk R10
                replace hoa := Keep.mk hoa
                replace hza := Keep.mk hza
                cases hon : onf rl B m
                · rw [hon] at hcon
                  repeat (first
                    | refine y_seq ?_
                    | (refine y_region ?_; simp only [List.size_toArray, List.length_cons, List.length_nil, Nat.reduceAdd, Nat.zero_add, List.range, List.range.loop])
                    | refine y_regionEnd ?_
                    | (refine y_nw rfl (by rfl) rfl (by first | exact nx_of rfl | exact nx_nil rfl rfl | exact nx_int rfl rfl rfl) (fun dd hS K hK => ?_); go_simp; refine hK _ _ _ ?_; clear hK K hS dd; simp only [recOf]; try walk_nrm)
                    | (refine y_unwanted rfl (by rfl) ?_; try walk_nrm)
                    | (refine y_cond true rfl ?_; simp only [if_true])
                    | (refine y_cond false rfl ?_; simp only [Bool.false_eq_true, if_false])
                    | refine y_skip ?_ | refine y_block ?_ | refine y_inBlock ?_ | refine y_label ?_ | refine y_exit rfl ?_ | refine y_ret ?_ | refine y_end ?_ | refine y_scope ?_ | refine y_inScope ?_)
                  rw [show (m : Int) + 1 = ((m + 1 : Nat) : Int) by omega]
                  exact IH.out _ _ _ _ (by have := ht''.out; omega) ⟨rfl, m + 1, rfl, by omega, hoa.out, hza.out, R10.out, ⟨rfl, rfl, rfl, rfl, rfl, rfl, rfl, rfl, rfl, rfl, rfl, rfl, rfl, rfl, trivial⟩⟩
                · rw [hon] at hcon
                  repeat (first
                    | refine y_seq ?_
                    | (refine y_region ?_; simp only [List.size_toArray, List.length_cons, List.length_nil, Nat.reduceAdd, Nat.zero_add, List.range, List.range.loop])
                    | refine y_regionEnd ?_
                    | (refine y_nw rfl (by rfl) rfl (by first | exact nx_of rfl | exact nx_nil rfl rfl | exact nx_int rfl rfl rfl) (fun dd hS K hK => ?_); go_simp; refine hK _ _ _ ?_; clear hK K hS dd; simp only [recOf]; try walk_nrm)
                    | (refine y_unwanted rfl (by rfl) ?_; try walk_nrm)
                    | (refine y_cond true rfl ?_; simp only [if_true])
                    | (refine y_cond false rfl ?_; simp only [Bool.false_eq_true, if_false])
                    | refine y_skip ?_ | refine y_block ?_ | refine y_inBlock ?_ | refine y_label ?_ | refine y_exit rfl ?_ | refine y_ret ?_ | refine y_end ?_ | refine y_scope ?_ | refine y_inScope ?_)
                  rw [show (m : Int) + 1 = ((m + 1 : Nat) : Int) by omega]
                  exact IH.out _ _ _ _ (by have := ht''.out; omega) ⟨rfl, m + 1, rfl, by omega, hoa.out, hza.out, R10.out, ⟨rfl, rfl, rfl, rfl, rfl, rfl, rfl, rfl, rfl, rfl, rfl, rfl, rfl, rfl, trivial⟩⟩
              · have hmyK := Keep.mk hmy
                have hcon := hcon9.out
                have R10 : Row w9 N 3 n (fun x => .int .i64 ((if x < m + 1 then (if x = y then 0 else sc x + 1) else sc x : Nat) : Int)) := R9.out.congr fun x hx => by
                  by_cases e : x = m
                  · subst e; simp [hmy]
                  · rw [setAt_ne _ _ e]
                    by_cases e2 : x < m
                    · simp [e2, show x < m + 1 by omega]
                    · simp [e2, show ¬ x < m + 1 by omega]
                have hle : onf rl B m = true → ¬ ((n : Int) ≤ (sc m : Int) + 1) := fun ho => by
                  have := hfair.out m hm ho
                  rw [if_neg hmy] at this
                  have := dist_lt (n := n) (k := k + 1) (x := m) hn1
                  omega
                replace R10 := Keep.mk R10
                cases hon : onf rl B m
                · rw [hon] at hcon
                  clear hle
                  repeat (first
                    | refine y_seq ?_
                    | (refine y_region ?_; simp only [List.size_toArray, List.length_cons, List.length_nil, Nat.reduceAdd, Nat.zero_add, List.range, List.range.loop])
                    | refine y_regionEnd ?_
                    | (refine y_nw rfl (by rfl) rfl (by first | exact nx_of rfl | exact nx_nil rfl rfl | exact nx_int rfl rfl rfl) (fun dd hS K hK => ?_); go_simp; refine hK _ _ _ ?_; clear hK K hS dd; simp only [recOf]; try walk_nrm)
                    | (refine y_unwanted rfl (by rfl) ?_; try walk_nrm)
                    | (refine y_cond true rfl ?_; simp only [if_true])
                    | (refine y_cond false rfl ?_; simp only [Bool.false_eq_true, if_false])
                    | refine y_skip ?_ | refine y_block ?_ | refine y_inBlock ?_ | refine y_label ?_ | refine y_exit rfl ?_ | refine y_ret ?_ | refine y_end ?_ | refine y_scope ?_ | refine y_inScope ?_)
                  have hmyb : ((m : Int) == (y : Int)) = false := beq_eq_false_iff_ne.2 fun h => hmyK.out (by omega)
                  simp only [hmyb]
                  repeat (first
                    | refine y_seq ?_
                    | (refine y_region ?_; simp only [List.size_toArray, List.length_cons, List.length_nil, Nat.reduceAdd, Nat.zero_add, List.range, List.range.loop])
                    | refine y_regionEnd ?_
                    | (refine y_nw rfl (by rfl) rfl (by first | exact nx_of rfl | exact nx_nil rfl rfl | exact nx_int rfl rfl rfl) (fun dd hS K hK => ?_); go_simp; refine hK _ _ _ ?_; clear hK K hS dd; simp only [recOf]; try walk_nrm)
                    | (refine y_unwanted rfl (by rfl) ?_; try walk_nrm)
                    | (refine y_cond true rfl ?_; simp only [if_true])
                    | (refine y_cond false rfl ?_; simp only [Bool.false_eq_true, if_false])
                    | refine y_skip ?_ | refine y_block ?_ | refine y_inBlock ?_ | refine y_label ?_ | refine y_exit rfl ?_ | refine y_ret ?_ | refine y_end ?_ | refine y_scope ?_ | refine y_inScope ?_)
                  rw [show (m : Int) + 1 = ((m + 1 : Nat) : Int) by omega]
                  exact IH.out _ _ _ _ (by have := ht''.out; omega) ⟨rfl, m + 1, rfl, by omega, ho9.out, hz9.out, R10.out, ⟨rfl, rfl, rfl, rfl, rfl, rfl, rfl, rfl, rfl, rfl, rfl, rfl, rfl, rfl, trivial⟩⟩
                · rw [hon] at hcon
                  have hle' := hle hon
                  clear hle
                  repeat (first
                    | refine y_seq ?_
                    | (refine y_region ?_; simp only [List.size_toArray, List.length_cons, List.length_nil, Nat.reduceAdd, Nat.zero_add, List.range, List.range.loop])
                    | refine y_regionEnd ?_
                    | (refine y_nw rfl (by rfl) rfl (by first | exact nx_of rfl | exact nx_nil rfl rfl | exact nx_int rfl rfl rfl) (fun dd hS K hK => ?_); go_simp; refine hK _ _ _ ?_; clear hK K hS dd; simp only [recOf]; try walk_nrm)
                    | (refine y_unwanted rfl (by rfl) ?_; try walk_nrm)
                    | (refine y_cond true rfl ?_; simp only [if_true])
                    | (refine y_cond false rfl ?_; simp only [Bool.false_eq_true, if_false])
                    | refine y_skip ?_ | refine y_block ?_ | refine y_inBlock ?_ | refine y_label ?_ | refine y_exit rfl ?_ | refine y_ret ?_ | refine y_end ?_ | refine y_scope ?_ | refine y_inScope ?_)
                  have hmyb : ((m : Int) == (y : Int)) = false := beq_eq_false_iff_ne.2 fun h => hmyK.out (by omega)
                  simp only [hmyb]
                  repeat (first
                    | refine y_seq ?_
                    | (refine y_region ?_; simp only [List.size_toArray, List.length_cons, List.length_nil, Nat.reduceAdd, Nat.zero_add, List.range, List.range.loop])
                    | refine y_regionEnd ?_
                    | (refine y_nw rfl (by rfl) rfl (by first | exact nx_of rfl | exact nx_nil rfl rfl | exact nx_int rfl rfl rfl) (fun dd hS K hK => ?_); go_simp; refine hK _ _ _ ?_; clear hK K hS dd; simp only [recOf]; try walk_nrm)
                    | (refine y_unwanted rfl (by rfl) ?_; try walk_nrm)
                    | (refine y_cond true rfl ?_; simp only [if_true])
                    | (refine y_cond false rfl ?_; simp only [Bool.false_eq_true, if_false])
                    | refine y_skip ?_ | refine y_block ?_ | refine y_inBlock ?_ | refine y_label ?_ | refine y_exit rfl ?_ | refine y_ret ?_ | refine y_end ?_ | refine y_scope ?_ | refine y_inScope ?_)
                  rw [show (m : Int) + 1 = ((m + 1 : Nat) : Int) by omega]
                  exact IH.out _ _ _ _ (by have := ht''.out; omega) ⟨rfl, m + 1, rfl, by omega, ho9.out, hz9.out, R10.out, ⟨rfl, rfl, rfl, rfl, rfl, rfl, rfl, rfl, rfl, rfl, rfl, rfl, rfl, rfl, trivial⟩⟩
            · have hm' : ¬ (m : Int) < n := by omega
              have R9 : Row w8 N 3 n (fun x => .int .i64 ((if x = y then 0 else sc x + 1 : Nat) : Int)) := R8.congr fun x hx => by rw [if_pos (by omega)]
              replace R9 := Keep.mk R9
              replace ho8 := Keep.mk ho8
              replace hz8 := Keep.mk hz8
              repeat (first
                | refine y_seq ?_
                | (refine y_region ?_; simp only [List.size_toArray, List.length_cons, List.length_nil, Nat.reduceAdd, Nat.zero_add, List.range, List.range.loop])
                | refine y_regionEnd ?_
                | (refine y_nw rfl (by rfl) rfl (by first | exact nx_of rfl | exact nx_nil rfl rfl | exact nx_int rfl rfl rfl) (fun dd hS K hK => ?_); go_simp; refine hK _ _ _ ?_; clear hK K hS dd; simp only [recOf]; try walk_nrm)
                | (refine y_unwanted rfl (by rfl) ?_; try walk_nrm)
                | (refine y_cond true rfl ?_; simp only [if_true])
                | (refine y_cond false rfl ?_; simp only [Bool.false_eq_true, if_false])
                | refine y_skip ?_ | refine y_block ?_ | refine y_inBlock ?_ | refine y_label ?_ | refine y_exit rfl ?_ | refine y_ret ?_ | refine y_end ?_ | refine y_scope ?_ | refine y_inScope ?_)
              exact K.out _ _ _ ⟨rfl, ho8.out, hz8.out, R9.out, ⟨rfl, rfl, rfl, rfl, rfl, rfl, rfl, rfl, rfl, rfl, rfl, rfl, trivial⟩⟩
          rintro a σ w8 ⟨rfl, ho8, hz8, R8, hT⟩
          obtain ⟨j, rfl, h0', h1', h2', h3', h4', h5', h6', h7', h8', h9', -⟩ := Tm.lit hT
          simp only at h0' h1' h2' h3' h4' h5' h6' h7' h8' h9'
          simp only [List.range, List.range.loop, List.map_cons, List.map_nil, h0', h1', h2', h3', h4', h5', h6', h7', h8', h9']
          clear h0' h1' h2' h3' h4' h5' h6' h7' h8' h9' hT
          have ew3 : IntKind.i64.wrap ((k : Int) + 1) = (k : Int) + 1 := wrap_small (by omega) (by omega)
          have G8 : Going w w8 r (onf rl B) n (k + 1) N l cap S (setAt nx y (nx y + 1)) (fun x => if x = y then 0 else sc x + 1) := by
            have hNo := hNo.out
            refine ⟨fun b hb => (ho8 b (by omega)).trans (old7.out b hb), by rw [hz8]; exact hsz7.out, ⟨_, _, W7.out.under (w' := w8) (N := N) (fun x hx b hb => (PL.out.ins x hx b hb).2) (by omega) (by omega) (by omega) PL.out.l.2 (fun b hb => ho8 b (by omega))⟩, row7.out.later (ho8 _ (by omega)), R8, next7.out.later (ho8 _ (by omega)), fun x => ?_, fun x => ?_, hfair.out⟩
            · by_cases e : x = y
              · subst e; rw [setAt_same]; have := nxle.out x; omega
              · rw [setAt_ne _ _ e]; have := nxle.out x; omega
            · have := scle.out x
              split <;> omega
          clear R8 ho8 hz8 W7 row7 since7 next7 old7 hsz7 nxle scle hfair w7
          replace G8 := Keep.mk G8
          repeat (first
            | refine y_seq ?_
            | (refine y_region ?_; simp only [List.size_toArray, List.length_cons, List.length_nil, Nat.reduceAdd, Nat.zero_add, List.range, List.range.loop])
            | refine y_regionEnd ?_
            | (refine y_nw rfl (by rfl) rfl (by first | exact nx_of rfl | exact nx_nil rfl rfl | exact nx_int rfl rfl rfl) (fun dd hS K hK => ?_); go_simp; refine hK _ _ _ ?_; clear hK K hS dd; simp only [recOf]; try walk_nrm)
            | (refine y_unwanted rfl (by rfl) ?_; try walk_nrm)
            | (refine y_cond true rfl ?_; simp only [if_true])
            | (refine y_cond false rfl ?_; simp only [Bool.false_eq_true, if_false])
            | refine y_skip ?_ | refine y_block ?_ | refine y_inBlock ?_ | refine y_label ?_ | refine y_exit rfl ?_ | refine y_ret ?_ | refine y_end ?_ | refine y_scope ?_ | refine y_inScope ?_)
          rw [show (k : Int) + 1 = ((k + 1 : Nat) : Int) by omega]
          exact IH.out _ _ _ _ (by have := ht'.out; omega) ⟨rfl, k + 1, _, _, rfl, by omega, G8.out, ⟨rfl, rfl, rfl, rfl, rfl, rfl, rfl, rfl, rfl, rfl, rfl, rfl, trivial⟩⟩
      · have hk' : ¬ (k : Int) < r := by omega
        replace G := Keep.mk G
        repeat (first
          | refine y_seq ?_
          | (refine y_region ?_; simp only [List.size_toArray, List.length_cons, List.length_nil, Nat.reduceAdd, Nat.zero_add, List.range, List.range.loop])
          | refine y_regionEnd ?_
          | (refine y_nw rfl (by rfl) rfl (by first | exact nx_of rfl | exact nx_nil rfl rfl | exact nx_int rfl rfl rfl) (fun dd hS K hK => ?_); go_simp; refine hK _ _ _ ?_; clear hK K hS dd; simp only [recOf]; try walk_nrm)
          | (refine y_unwanted rfl (by rfl) ?_; try walk_nrm)
          | (refine y_cond true rfl ?_; simp only [if_true])
          | (refine y_cond false rfl ?_; simp only [Bool.false_eq_true, if_false])
          | refine y_skip ?_ | refine y_block ?_ | refine y_inBlock ?_ | refine y_label ?_ | refine y_exit rfl ?_ | refine y_ret ?_ | refine y_end ?_ | refine y_scope ?_ | refine y_inScope ?_)
        exact K.out _ _ _ ⟨rfl, k, nx, sc, by omega, G.out, ⟨rfl, rfl, rfl, rfl, rfl, rfl, trivial⟩⟩
    clear G5 w5
    rintro a σ w5 ⟨rfl, k, nx, sc, hk, G, hT⟩
    obtain ⟨j, rfl, h0', h1', h2', h3', -⟩ := Tm.lit hT
    simp only at h0' h1' h2' h3'
    simp only [List.range, List.range.loop, List.map_cons, List.map_nil, h0', h1', h2', h3']
    clear h0' h1' h2' h3' hT
    obtain ⟨d, o, W⟩ := G.wk
    replace G := Keep.mk G
    replace W := Keep.mk W
    repeat (first
      | refine y_seq ?_
      | (refine y_region ?_; simp only [List.size_toArray, List.length_cons, List.length_nil, Nat.reduceAdd, Nat.zero_add, List.range, List.range.loop])
      | refine y_regionEnd ?_
      | (refine y_nw rfl (by rfl) rfl (by first | exact nx_of rfl | exact nx_nil rfl rfl | exact nx_int rfl rfl rfl) (fun dd hS K hK => ?_); go_simp; refine hK _ _ _ ?_; clear hK K hS dd; simp only [recOf]; try walk_nrm)
      | (refine y_unwanted rfl (by rfl) ?_; try walk_nrm)
      | (refine y_cond true rfl ?_; simp only [if_true])
      | (refine y_cond false rfl ?_; simp only [Bool.false_eq_true, if_false])
      | refine y_skip ?_ | refine y_block ?_ | refine y_inBlock ?_ | refine y_label ?_ | refine y_exit rfl ?_ | refine y_ret ?_ | refine y_end ?_ | refine y_scope ?_ | refine y_inScope ?_)
    refine y_callR rfl (by rfl) rfl rfl Try.func47 (by kernel_rfl) (by kernel_rfl) (W.out.try (fun _ => rfl) (by omega) hf.out) (by simp only [List.map_toArray, List.map_cons, List.map_nil] <;> rfl) ?_
    rintro r' σ'' w6 ⟨e2, hz6, ho6, hcase⟩
    rw [e2]; clear e2 σ''
    have g6 : w.heap.size ≤ w6.heap.size ∧ ∀ b, b < w.heap.size → w6.heap[b]? = w.heap[b]? := by
      have hNo := hN.out
      have := G.out.size
      exact ⟨by omega, fun b hb => (ho6 b (by omega) (fun x hx hc => by have := PL.out.ins x hx b (.inr (.inr hc)); omega) (by omega) (by omega)).trans (G.out.old b hb)⟩
    clear ho6 hz6 G W
    replace g6 := Keep.mk g6
    rcases hcase with ⟨y, v, hy, hq, rfl⟩ | ⟨hq, rfl⟩
    · clear hq
      walk_nrm
      repeat (first
        | refine y_seq ?_
        | (refine y_region ?_; simp only [List.size_toArray, List.length_cons, List.length_nil, Nat.reduceAdd, Nat.zero_add, List.range, List.range.loop])
        | refine y_regionEnd ?_
        | (refine y_nw rfl (by rfl) rfl (by first | exact nx_of rfl | exact nx_nil rfl rfl | exact nx_int rfl rfl rfl) (fun dd hS K hK => ?_); go_simp; refine hK _ _ _ ?_; clear hK K hS dd; simp only [recOf]; try walk_nrm)
        | (refine y_unwanted rfl (by rfl) ?_; try walk_nrm)
        | (refine y_cond true rfl ?_; simp only [if_true])
        | (refine y_cond false rfl ?_; simp only [Bool.false_eq_true, if_false])
        | refine y_skip ?_ | refine y_block ?_ | refine y_inBlock ?_ | refine y_label ?_ | refine y_exit rfl ?_ | refine y_ret ?_ | refine y_end ?_ | refine y_scope ?_ | refine y_inScope ?_)
      refine y_callR rfl (by rfl) rfl rfl Try.func48 (by kernel_rfl) (by kernel_rfl) (works21 hf.out) (by simp only [List.map_toArray, List.map_cons, List.map_nil] <;> rfl) ?_
      rintro _ σ'' w7 ⟨rfl, e2, g7⟩
      rw [e2]
      clear e2 σ''
      walk_nrm
      repeat (first
        | refine y_seq ?_
        | (refine y_region ?_; simp only [List.size_toArray, List.length_cons, List.length_nil, Nat.reduceAdd, Nat.zero_add, List.range, List.range.loop])
        | refine y_regionEnd ?_
        | (refine y_nw rfl (by rfl) rfl (by first | exact nx_of rfl | exact nx_nil rfl rfl | exact nx_int rfl rfl rfl) (fun dd hS K hK => ?_); go_simp; refine hK _ _ _ ?_; clear hK K hS dd; simp only [recOf]; try walk_nrm)
        | (refine y_unwanted rfl (by rfl) ?_; try walk_nrm)
        | (refine y_cond true rfl ?_; simp only [if_true])
        | (refine y_cond false rfl ?_; simp only [Bool.false_eq_true, if_false])
        | refine y_skip ?_ | refine y_block ?_ | refine y_inBlock ?_ | refine y_label ?_ | refine y_exit rfl ?_ | refine y_ret ?_ | refine y_end ?_ | refine y_scope ?_ | refine y_inScope ?_)
      replace H := Keep.out H
      refine H _ _ _ _ (leaves_at rfl rfl Try.func7 (resultsC_tmp rfl _)) ?_
      exact ⟨rfl, rfl, by have := g7.size; have := g6.out.1; omega, fun c hc => (g7.old c (by have := g6.out.1; omega)).trans (g6.out.2 c hc)⟩
    · clear hq
      walk_nrm
      repeat (first
        | refine y_seq ?_
        | (refine y_region ?_; simp only [List.size_toArray, List.length_cons, List.length_nil, Nat.reduceAdd, Nat.zero_add, List.range, List.range.loop])
        | refine y_regionEnd ?_
        | (refine y_nw rfl (by rfl) rfl (by first | exact nx_of rfl | exact nx_nil rfl rfl | exact nx_int rfl rfl rfl) (fun dd hS K hK => ?_); go_simp; refine hK _ _ _ ?_; clear hK K hS dd; simp only [recOf]; try walk_nrm)
        | (refine y_unwanted rfl (by rfl) ?_; try walk_nrm)
        | (refine y_cond true rfl ?_; simp only [if_true])
        | (refine y_cond false rfl ?_; simp only [Bool.false_eq_true, if_false])
        | refine y_skip ?_ | refine y_block ?_ | refine y_inBlock ?_ | refine y_label ?_ | refine y_exit rfl ?_ | refine y_ret ?_ | refine y_end ?_ | refine y_scope ?_ | refine y_inScope ?_)
      refine y_callR rfl (by rfl) rfl rfl Try.func48 (by kernel_rfl) (by kernel_rfl) (works21 hf.out) (by simp only [List.map_toArray, List.map_cons, List.map_nil] <;> rfl) ?_
      rintro _ σ'' w7 ⟨rfl, e2, g7⟩
      rw [e2]
      clear e2 σ''
      walk_nrm
      repeat (first
        | refine y_seq ?_
        | (refine y_region ?_; simp only [List.size_toArray, List.length_cons, List.length_nil, Nat.reduceAdd, Nat.zero_add, List.range, List.range.loop])
        | refine y_regionEnd ?_
        | (refine y_nw rfl (by rfl) rfl (by first | exact nx_of rfl | exact nx_nil rfl rfl | exact nx_int rfl rfl rfl) (fun dd hS K hK => ?_); go_simp; refine hK _ _ _ ?_; clear hK K hS dd; simp only [recOf]; try walk_nrm)
        | (refine y_unwanted rfl (by rfl) ?_; try walk_nrm)
        | (refine y_cond true rfl ?_; simp only [if_true])
        | (refine y_cond false rfl ?_; simp only [Bool.false_eq_true, if_false])
        | refine y_skip ?_ | refine y_block ?_ | refine y_inBlock ?_ | refine y_label ?_ | refine y_exit rfl ?_ | refine y_ret ?_ | refine y_end ?_ | refine y_scope ?_ | refine y_inScope ?_)
      replace H := Keep.out H
      refine H _ _ _ _ (leaves_at rfl rfl Try.func7 (resultsC_tmp rfl _)) ?_
      exact ⟨rfl, rfl, by have := g7.size; have := g6.out.1; omega, fun c hc => (g7.old c (by have := g6.out.1; omega)).trans (g6.out.2 c hc)⟩
end Go.Proofs.Ytcibnfjpagmdaaa
