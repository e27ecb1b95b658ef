/- The making of a pipe. -/
import Derived.Test.YtcibnfjpagmdaaaPipe
set_option linter.unusedSimpArgs false
set_option linter.unusedVariables false
set_option maxRecDepth 100000
namespace Go.Proofs.Ytcibnfjpagmdaaa
open Go.TX Go.Conc Go.RowKit Go.MapKept
variable {J : Judge Try.prog} {σ : Cfg} {w : World}

/-- A new cell. -/
structure New1 (w w' : World) (v : Int) : Prop where
  is : CellIs w' w.heap.size v
  size : w'.heap.size = w.heap.size + 1
  old : ∀ c, c < w.heap.size → w'.heap[c]? = w.heap[c]?
theorem new1 (v : Int) : CallsX J 26 #[.int .i64 v] σ w fun r σ' w' => r = .pointer (some ⟨w.heap.size, 0, none⟩) ∧ σ' = σ ∧ New1 w w' v :=
  (cell_new v).mono fun _ _ _ ⟨h1, h2, h3, _⟩ => ⟨h1, h2, h3 ▸ ⟨cellIs_alloc w v, Array.size_push _, (heap_alloc w _).2⟩⟩

/-- A new block. -/
structure NewO (w w' : World) (o : Obj) : Prop where
  is : w'.heap[w.heap.size]? = some o
  size : w'.heap.size = w.heap.size + 1
  old : ∀ c, c < w.heap.size → w'.heap[c]? = w.heap[c]?
theorem newO (w : World) (o : Obj) : NewO w (w.alloc o) o := ⟨(heap_alloc w o).1, Array.size_push _, (heap_alloc w o).2⟩
/-- One block is turned. -/
structure SetO (w w' : World) (b : Nat) (o : Obj) : Prop where
  is : w'.heap[b]? = some o
  size : w'.heap.size = w.heap.size
  other : ∀ c, c ≠ b → w'.heap[c]? = w.heap[c]?
theorem setO {b i : Nat} {c : Array Value} {e : TypeId} {fz : Nat × Nat} (h : w.heap[b]? = some (.cells c e fz)) (v : Value) : SetO w (w.setCell ⟨b, i, none⟩ v) b (.cells (c.setIfInBounds i v) e fz) := by
  refine ⟨?_, setCell_size, fun k hk => setCell_heap_ne hk⟩
  unfold World.setCell
  simp only [Array.getElem?_modify, if_true, h, Option.map_some]
  rfl

theorem free_row {base : Nat} {e : TypeId} {size : Nat} {v : Value} {n : Nat} {xs : List Value} (h : w.ownsRow base e size v n xs) (hf : ∀ b, base ≤ b → σ.Free (· = b)) : σ.Free fun c => some c = v.ownBlock := by
  rcases h.2 with ⟨rfl, _⟩ | ⟨g, cap, cur, rfl, hg, _⟩
  · intro i s e; exact ⟨fun x => by simp [Value.ownBlock] at x, fun p hp x => by simp [Value.ownBlock] at x⟩
  · have := hf g hg
    intro i s e
    obtain ⟨h1, h2⟩ := this i s e
    exact ⟨fun x => h1 (by simpa [Value.ownBlock] using x), fun p hp x => h2 p hp (by simpa [Value.ownBlock] using x)⟩

theorem cells_new (w : World) (l : List Value) (t : TypeId) : ∀ j u, l[j]? = some u → (w.alloc (.cells l.toArray t)).cell? ((⟨w.heap.size, 0, none⟩ : Addr).add j) = some u := by
  intro j u h
  unfold World.cell?
  rw [add_block, (heap_alloc w _).1]
  have : ((⟨w.heap.size, 0, none⟩ : Addr).add j).spot = none ∧ ((⟨w.heap.size, 0, none⟩ : Addr).add j).off = j := by unfold Addr.add; split <;> simp_all
  simp only [this.1, this.2]
  simpa using h
theorem row_later {base : Nat} {e : TypeId} {size : Nat} {v : Value} {n : Nat} {xs : List Value} {w' : World} (h : w.ownsRow base e size v n xs) (he : ∀ k, v.ownBlock = some k → w'.heap[k]? = w.heap[k]?) : w'.ownsRow base e size v n xs := by
  refine ⟨h.1, h.2.imp id ?_⟩
  rintro ⟨g, cap, cur, rfl, h1, h2, h3⟩
  exact ⟨g, cap, cur, rfl, h1, (he g rfl).trans h2, h3⟩
theorem frozen_of {b i : Nat} {c : Array Value} {e : TypeId} (h : w.heap[b]? = some (.cells c e)) : w.frozen? ⟨b, i, none⟩ = false := by unfold World.frozen?; rw [h]; simp
theorem row_slice {base : Nat} {e : TypeId} {size : Nat} {v : Value} {n : Nat} {xs : List Value} (h : w.ownsRow base e size v n xs) : ∃ bo c, v = .slice bo n c := by
  rcases h.2 with ⟨rfl, rfl⟩ | ⟨g, cap, cur, rfl, _⟩ <;> exact ⟨_, _, rfl⟩
theorem row_ty {base : Nat} {e : TypeId} {size : Nat} {v : Value} {n : Nat} {xs : List Value} (h : w.ownsRow base e size v n xs) {k : Nat} (hk : v.ownBlock = some k) : base ≤ k ∧ k < w.heap.size ∧ ∃ cur, w.heap[k]? = some (.cells cur e (0, 0)) := by
  rcases h.2 with ⟨rfl, _⟩ | ⟨g, cap, cur, rfl, h1, h2, _⟩
  · cases hk
  · obtain rfl : g = k := by simpa [Value.ownBlock] using hk
    exact ⟨h1, lt_of_get h2, cur, h2⟩

/-- The blocks of the cells of a pipe of m places, by number: in, out, then turn and slot of each place. -/
def ptrs (c : Nat → Nat) : Nat → List Value
  | 0 => []
  | m + 1 => ptrs c m ++ [.pointer (some ⟨c (2 + 2 * m), 0, none⟩), .pointer (some ⟨c (3 + 2 * m), 0, none⟩)]
def val0 (x : Nat) : Int := if 2 ≤ x ∧ x % 2 = 0 then ((x - 2) / 2 : Nat) else 0

structure Made (w0 wx w : World) (p : Nat) (bell : Option Addr) (c : Nat → Nat) (m : Nat) (sv : Value) : Prop where
  p0 : w0.heap.size ≤ p
  hp : w.heap[p]? = some (.cells #[.pointer (some ⟨c 0, 0, none⟩), .pointer (some ⟨c 1, 0, none⟩), .pointer bell, sv] 95)
  own : w.ownsRow w0.heap.size 221 2 sv m (ptrs c m)
  inj : ∀ x y, x < 2 + 2 * m → y < 2 + 2 * m → c x = c y → x = y
  new : ∀ x, x < 2 + 2 * m → w0.heap.size ≤ c x
  is : ∀ x, x < 2 + 2 * m → CellIs w (c x) (val0 x)
  old : ∀ k, k < w0.heap.size → w.heap[k]? = w0.heap[k]?
  size : w0.heap.size ≤ w.heap.size
  kept : ∀ k v, CellIs wx k v → CellIs w k v

theorem Made.cell3 {w0 wx : World} {p m : Nat} {bell : Option Addr} {c : Nat → Nat} {sv : Value} (M : Made w0 wx w p bell c m sv) : w.cell? ⟨p, 3, none⟩ = some sv := by unfold World.cell?; rw [M.hp]; rfl
/-- One more place. -/
theorem Made.more {w0 wx w1 w2 w3 w4 w5 : World} {p m : Nat} {bell : Option Addr} {c : Nat → Nat} {sv sv' : Value} (M : Made w0 wx w p bell c m sv) (N1 : New1 w w1 m) (N2 : New1 w1 w2 0) {o : Obj} (N3 : NewO w2 w3 o)
    (own : w4.ownsRow w0.heap.size 221 2 sv' (m + 1) (ptrs c m ++ [.pointer (some ⟨w.heap.size, 0, none⟩), .pointer (some ⟨w1.heap.size, 0, none⟩)])) (hg : w3.grownBy w4 sv.ownBlock) (hb : sv'.ownBlock = sv.ownBlock ∨ sv'.ownBlock = some w3.heap.size)
    (hs : SetO w4 w5 p (.cells #[.pointer (some ⟨c 0, 0, none⟩), .pointer (some ⟨c 1, 0, none⟩), .pointer bell, sv'] 95)) :
    Made w0 wx w5 p bell (fun x => if x < 2 + 2 * m then c x else if x = 2 + 2 * m then w.heap.size else w1.heap.size) (m + 1) sv' := by
  have z1 := N1.size
  have z2 := N2.size
  have z3 := N3.size
  have z4 := hg.size
  have z5 := hs.size
  have hp := lt_of_get M.hp
  have hsz := M.size
  -- a block that was there and is of another kind than the row
  have keep : ∀ k, k < w2.heap.size → k ≠ p → some k ≠ sv.ownBlock → w5.heap[k]? = w2.heap[k]? := fun k hk h1 h2 => by
    rw [hs.other k h1, hg.block k (by omega) h2, N3.old k hk]
  have hrow : ∀ k, sv.ownBlock = some k → w0.heap.size ≤ k ∧ k < w.heap.size ∧ ∃ cur, w.heap[k]? = some (.cells cur 221 (0, 0)) := fun k hk => row_ty M.own hk
  have hcell : ∀ k v, CellIs w k v → k ≠ p ∧ some k ≠ sv.ownBlock := fun k v h => by
    refine ⟨fun e => ?_, fun e => ?_⟩
    · subst e; have := h.symm.trans M.hp; simp at this
    · obtain ⟨_, _, cur, h2⟩ := hrow k e.symm
      have := h.symm.trans h2; simp at this
  have hnr : ∀ k, w.heap.size ≤ k → some k ≠ sv.ownBlock := fun k hk e => by have := (hrow k e.symm).2.1; omega
  have hlt : ∀ x, x < 2 + 2 * m → c x < w.heap.size := fun x hx => (M.is x hx).lt
  refine ⟨M.p0, by simp only [show 0 < 2 + 2 * m by omega, show 1 < 2 + 2 * m by omega, if_true]; exact hs.is, ?_, fun x y hx hy h => ?_, fun x hx => ?_, fun x hx => ?_, fun k hk => ?_, by omega, fun k v hk => ?_⟩
  · have e : ptrs (fun x => if x < 2 + 2 * m then c x else if x = 2 + 2 * m then w.heap.size else w1.heap.size) (m + 1) = ptrs c m ++ [.pointer (some ⟨w.heap.size, 0, none⟩), .pointer (some ⟨w1.heap.size, 0, none⟩)] := by
      have : ∀ j, j ≤ m → ptrs (fun x => if x < 2 + 2 * m then c x else if x = 2 + 2 * m then w.heap.size else w1.heap.size) j = ptrs c j := by
        intro j
        induction j with
        | zero => intro _; rfl
        | succ j ih =>
          intro hj
          simp only [ptrs, ih (by omega)]
          rw [if_pos (by omega), if_pos (by omega)]
      simp only [ptrs, this m (Nat.le_refl _)]
      simp [show ¬ (3 + 2 * m < 2 + 2 * m) by omega, show ¬ (3 + 2 * m = 2 + 2 * m) by omega]
    rw [e]
    refine row_later own fun k hk => hs.other k fun e => ?_
    subst e
    rcases hb with hb | hb
    · rw [hb] at hk
      obtain ⟨_, _, cur, h2⟩ := hrow k hk
      have := h2.symm.trans M.hp; simp at this
    · rw [hb] at hk
      have : w3.heap.size = k := by simpa using hk
      omega
  · have a1 := hlt x
    have a2 := hlt y
    by_cases x1 : x < 2 + 2 * m <;> by_cases y1 : y < 2 + 2 * m
    · rw [if_pos x1, if_pos y1] at h; exact M.inj x y x1 y1 h
    · rw [if_pos x1, if_neg y1] at h; have := a1 x1; split at h <;> omega
    · rw [if_neg x1, if_pos y1] at h; have := a2 y1; split at h <;> omega
    · rw [if_neg x1, if_neg y1] at h; split at h <;> split at h <;> omega
  · split
    · exact M.new x ‹_›
    · split <;> omega
  · split
    · rename_i hx
      have hc := M.is x hx
      obtain ⟨k1, k2⟩ := hcell _ _ hc
      exact ((hc.later (N1.old _ hc.lt)).later (N2.old _ (by have := hc.lt; omega))).later (keep _ (by have := hc.lt; omega) k1 k2)
    · split
      · rename_i _ e
        subst e
        have : val0 (2 + 2 * m) = (m : Int) := by unfold val0; rw [if_pos (by omega)]; congr 1; omega
        rw [this]
        exact (N1.is.later (N2.old _ (by omega))).later (keep _ (by omega) (by omega) (hnr _ (by omega)))
      · have e : x = 3 + 2 * m := by omega
        subst e
        have : val0 (3 + 2 * m) = 0 := by unfold val0; rw [if_neg (by omega)]
        rw [this]
        exact N2.is.later (keep _ (by omega) (by omega) (hnr _ (by omega)))
  · have h1 : some k ≠ sv.ownBlock := fun e => by have := (hrow k e.symm).1; omega
    have := M.p0
    rw [keep k (by omega) (by omega) h1, N2.old k (by omega), N1.old k (by omega), M.old k hk]
  · have hc := M.kept k v hk
    obtain ⟨k1, k2⟩ := hcell _ _ hc
    exact ((hc.later (N1.old _ hc.lt)).later (N2.old _ (by have := hc.lt; omega))).later (keep _ (by have := hc.lt; omega) k1 k2)

theorem made0 {w1 w2 w3 : World} {bell : Option Addr} (N1 : New1 w w1 0) (N2 : New1 w1 w2 0) (N3 : NewO w2 w3 (.cells #[.pointer (some ⟨w.heap.size, 0, none⟩), .pointer (some ⟨w1.heap.size, 0, none⟩), .pointer bell, .slice none 0 0] 95)) :
    Made w w w3 w2.heap.size bell (fun x => if x = 0 then w.heap.size else w1.heap.size) 0 (.slice none 0 0) := by
  have s1 := N1.size
  have s2 := N2.size
  have s3 := N3.size
  have old : ∀ k, k < w.heap.size → w3.heap[k]? = w.heap[k]? := fun k hk => by rw [N3.old k (by omega), N2.old k (by omega), N1.old k hk]
  refine ⟨by omega, by simpa using N3.is, ⟨rfl, .inl ⟨rfl, rfl⟩⟩, fun x y hx hy h => ?_, fun x hx => ?_, fun x hx => ?_, old, by omega, fun k v hk => hk.later (old k hk.lt)⟩
  · have hx : x = 0 ∨ x = 1 := by omega
    have hy : y = 0 ∨ y = 1 := by omega
    rcases hx with rfl | rfl <;> rcases hy with rfl | rfl <;> simp at h ⊢ <;> omega
  · by_cases e : x = 0 <;> simp [e] <;> omega
  · have hx : x = 0 ∨ x = 1 := by omega
    rcases hx with rfl | rfl
    · exact (N1.is.later (N2.old _ (by omega))).later (N3.old _ (by omega))
    · exact N2.is.later (N3.old _ (by omega))
/-- .. and its bell is laid. -/
theorem Made.bell {w0 wx w1 w2 : World} {p : Nat} {bell bell' : Option Addr} {c : Nat → Nat} (M : Made w0 wx w p bell c 0 (.slice none 0 0)) (N : New1 w w1 0) (hs : SetO w1 w2 p (.cells #[.pointer (some ⟨c 0, 0, none⟩), .pointer (some ⟨c 1, 0, none⟩), .pointer bell', .slice none 0 0] 95)) :
    Made w0 w1 w2 p bell' c 0 (.slice none 0 0) := by
  have z1 := N.size
  have z2 := hs.size
  have hp := lt_of_get M.hp
  have := M.size
  have hc : ∀ k v, CellIs w1 k v → k ≠ p := fun k v h e => by
    subst e
    have h2 := h.symm.trans ((N.old _ hp).trans M.hp); simp at h2
  refine ⟨M.p0, hs.is, ⟨rfl, .inl ⟨rfl, rfl⟩⟩, M.inj, M.new, fun x hx => ?_, fun k hk => ?_, by omega, fun k v hk => hk.later (hs.other k (hc k v hk))⟩
  · have h1 := (M.is x hx).later (N.old _ (M.is x hx).lt)
    exact h1.later (hs.other _ (hc _ _ h1))
  · rw [hs.other k (by have := M.p0; omega), N.old k (by omega), M.old k hk]

theorem pipe_new_bell (n : Nat) (bell : Addr) (h2 : 2 ≤ n) (h3 : n ≤ 4096) (hb : bits .and .i64 (n : Int) (IntKind.i64.wrap ((n : Int) - 1)) = 0) :
    CallsX J 45 #[.int .i64 n, .pointer (some bell)] σ w fun r σ' w' => σ' = σ ∧ ∃ p c sv, r = .tuple #[.pointer (some ⟨p, 0, none⟩), .int .i64 0] ∧ Made w w w' p (some bell) c n sv := by
  have n1 : ¬ ((n : Int) < 2) := by omega
  have n2 : ¬ ((4096 : Int) < n) := by omega
  refine callsX_body Try.func45 rfl fun c cs H HN => ?_
  simp only [Try.f45, Try.ntmps45, List.size_toArray, List.length_cons, List.length_nil, Nat.reduceAdd, Nat.reduceSub, Nat.zero_add, Array.replicate_succ, Array.replicate_zero, List.push_toArray, List.append_toArray, List.nil_append, List.cons_append, List.append_nil]
  repeat (first
    | refine y_seq ?_
    | (refine y_region ?_; simp only [List.size_toArray, List.length_cons, List.length_nil, Nat.reduceAdd, Nat.zero_add, List.range, List.range.loop])
    | refine y_regionEnd ?_
    | (refine y_nw rfl (by rfl) rfl (by first | exact nx_of rfl | exact nx_nil rfl rfl | exact nx_int rfl rfl rfl) (fun dd hS K hK => ?_); go_simp; refine hK _ _ _ ?_; clear hK K hS dd; simp only [recOf]; try walk_nrm)
    | (refine y_unwanted rfl (by rfl) ?_; try walk_nrm)
    | (refine y_cond true rfl ?_; simp only [if_true])
    | (refine y_cond false rfl ?_; simp only [Bool.false_eq_true, if_false])
    | refine y_skip ?_ | refine y_block ?_ | refine y_inBlock ?_ | refine y_label ?_ | refine y_exit rfl ?_ | refine y_ret ?_ | refine y_end ?_ | refine y_scope ?_ | refine y_inScope ?_)
  refine J.snd _ _ _ fun hS => ?_
  have hfr : ∀ b, w.heap.size ≤ b → σ.Free (· = b) := fun b hb => free_fresh hS hb
  refine y_callR rfl (by rfl) rfl rfl Try.func26 (by kernel_rfl) (by kernel_rfl) (new1 0) (by simp only [List.map_toArray, List.map_cons, List.map_nil] <;> rfl) ?_
  rintro _ σ'' w1 ⟨rfl, e2, N1⟩
  rw [e2]
  clear e2 σ''
  walk_nrm
  repeat (first
    | refine y_seq ?_
    | (refine y_region ?_; simp only [List.size_toArray, List.length_cons, List.length_nil, Nat.reduceAdd, Nat.zero_add, List.range, List.range.loop])
    | refine y_regionEnd ?_
    | (refine y_nw rfl (by rfl) rfl (by first | exact nx_of rfl | exact nx_nil rfl rfl | exact nx_int rfl rfl rfl) (fun dd hS K hK => ?_); go_simp; refine hK _ _ _ ?_; clear hK K hS dd; simp only [recOf]; try walk_nrm)
    | (refine y_unwanted rfl (by rfl) ?_; try walk_nrm)
    | (refine y_cond true rfl ?_; simp only [if_true])
    | (refine y_cond false rfl ?_; simp only [Bool.false_eq_true, if_false])
    | refine y_skip ?_ | refine y_block ?_ | refine y_inBlock ?_ | refine y_label ?_ | refine y_exit rfl ?_ | refine y_ret ?_ | refine y_end ?_ | refine y_scope ?_ | refine y_inScope ?_)
  refine y_callR rfl (by rfl) rfl rfl Try.func26 (by kernel_rfl) (by kernel_rfl) (new1 0) (by simp only [List.map_toArray, List.map_cons, List.map_nil] <;> rfl) ?_
  rintro _ σ'' w2 ⟨rfl, e2, N2⟩
  rw [e2]
  clear e2 σ''
  walk_nrm
  repeat (first
    | refine y_seq ?_
    | (refine y_region ?_; simp only [List.size_toArray, List.length_cons, List.length_nil, Nat.reduceAdd, Nat.zero_add, List.range, List.range.loop])
    | refine y_regionEnd ?_
    | (refine y_nw rfl (by rfl) rfl (by first | exact nx_of rfl | exact nx_nil rfl rfl | exact nx_int rfl rfl rfl) (fun dd hS K hK => ?_); go_simp; refine hK _ _ _ ?_; clear hK K hS dd; simp only [recOf]; try walk_nrm)
    | (refine y_unwanted rfl (by rfl) ?_; try walk_nrm)
    | (refine y_cond true rfl ?_; simp only [if_true])
    | (refine y_cond false rfl ?_; simp only [Bool.false_eq_true, if_false])
    | refine y_skip ?_ | refine y_block ?_ | refine y_inBlock ?_ | refine y_label ?_ | refine y_exit rfl ?_ | refine y_ret ?_ | refine y_end ?_ | refine y_scope ?_ | refine y_inScope ?_)
  have N3 := newO w2 (.cells #[.pointer (some ⟨w.heap.size, 0, none⟩), .pointer (some ⟨w1.heap.size, 0, none⟩), .pointer (some bell), .slice none 0 0] 95)
  generalize w2.alloc (.cells #[.pointer (some ⟨w.heap.size, 0, none⟩), .pointer (some ⟨w1.heap.size, 0, none⟩), .pointer (some bell), .slice none 0 0] 95) = w3 at N3 ⊢
  have M0 := made0 N1 N2 N3
  generalize w2.heap.size = p at M0 ⊢
  have HH : ∀ c' sv w', Made w w w' p (some bell) c' n sv → J.Y σ (G (c.finish (.tuple #[.pointer (some ⟨p, 0, none⟩), .int .i64 0])) cs) w' := fun c' sv w' M => H _ _ _ ⟨rfl, p, c', sv, rfl, M⟩
  clear H
  generalize hbv : Value.pointer (some bell) = bv
  obtain ⟨wx, M0, HH⟩ : ∃ wx, Made w wx w3 p (some bell) _ 0 _ ∧ ∀ c' sv w', Made w wx w' p (some bell) c' n sv → J.Y σ (G (c.finish (.tuple #[.pointer (some ⟨p, 0, none⟩), .int .i64 0])) cs) w' := ⟨w, M0, HH⟩
  refine y_loopI (fun k a σ' w' => σ' = σ ∧ ∃ m c sv, k = n - m ∧ m ≤ n ∧ Made w wx w' p (some bell) c m sv ∧ ∃ j2 j3 j4 j5 j7 j8 j9 j10 j11 j12 j13 j14 j15 j16 j17 j18 j19 j20 j21 j22 j23 j24 j25 j26 j27 j28 j29 j30 j31 j34 j35 j36 j37 j38 j39 j40 j41 j42 j43 j44 j45 j46 j47 j48 j49 j50, a = ⟨#[.int .i64 n, bv, j2, j3, j4, j5, .pointer (some ⟨p, 0, none⟩), j7, j8, j9, j10, j11, j12, j13, j14, j15, j16, j17, j18, j19, j20, j21, j22, j23, j24, j25, j26, j27, j28, j29, j30, j31, .int .i64 n, .int .i64 (m : Int), j34, j35, j36, j37, j38, j39, j40, j41, j42, j43, j44, j45, j46, j47, j48, j49, j50], []⟩) n ⟨rfl, 0, _, _, by omega, by omega, M0, _, _, _, _, _, _, _, _, _, _, _, _, _, _, _, _, _, _, _, _, _, _, _, _, _, _, _, _, _, _, _, _, _, _, _, _, _, _, _, _, _, _, _, _, _, _, rfl⟩ ?_
  rintro k IH _ _ w4 ⟨rfl, m, c', sv, hk, hm, M, j2, j3, j4, j5, j7, j8, j9, j10, j11, j12, j13, j14, j15, j16, j17, j18, j19, j20, j21, j22, j23, j24, j25, j26, j27, j28, j29, j30, j31, j34, j35, j36, j37, j38, j39, j40, j41, j42, j43, j44, j45, j46, j47, j48, j49, j50, rfl⟩
  by_cases e : m < n
  · have e1 : (m : Int) < n := by omega
    repeat (first
      | refine y_seq ?_
      | (refine y_region ?_; simp only [List.size_toArray, List.length_cons, List.length_nil, Nat.reduceAdd, Nat.zero_add, List.range, List.range.loop])
      | refine y_regionEnd ?_
      | (refine y_nw rfl (by rfl) rfl (by first | exact nx_of rfl | exact nx_nil rfl rfl | exact nx_int rfl rfl rfl) (fun dd hS K hK => ?_); go_simp; refine hK _ _ _ ?_; clear hK K hS dd; simp only [recOf]; try walk_nrm)
      | (refine y_unwanted rfl (by rfl) ?_; try walk_nrm)
      | (refine y_cond true rfl ?_; simp only [if_true])
      | (refine y_cond false rfl ?_; simp only [Bool.false_eq_true, if_false])
      | refine y_skip ?_ | refine y_block ?_ | refine y_inBlock ?_ | refine y_label ?_ | refine y_exit rfl ?_ | refine y_ret ?_ | refine y_end ?_ | refine y_scope ?_ | refine y_inScope ?_)
    have hp := lt_of_get M.hp
    have c3 := M.cell3
    refine y_drawnQ (fun _ w' => w'.cell? ⟨p, 3, none⟩ = some sv) (fun j => j == 13) (by kernel_rfl) rfl ?_
    simp only [List.size_toArray, List.length_cons, List.length_nil, Nat.reduceAdd, Nat.reduceSub, Nat.zero_add, Array.replicate_succ, Array.replicate_zero, List.push_toArray, List.append_toArray, List.nil_append, List.cons_append, List.append_nil]
    first | (apply anyX_takeW (i := 0) rfl; (focus rfl); (focus (first | exact nx_of rfl | exact nx_nil rfl rfl | exact nx_int rfl rfl rfl)); (focus (rintro σ' w' hS' d K hK; go_simp; exact hK)); (focus kernel_rfl); (focus kernel_rfl); (focus kernel_rfl); (focus kernel_rfl); (focus (assumption))) | (refine anyX_takeU (i := 0) rfl rfl (by kernel_rfl) (by kernel_rfl) (by kernel_rfl) (by kernel_rfl) (by assumption) ?_)
    try walk_nrm
    first | (apply anyX_takeW (i := 1) rfl; (focus rfl); (focus (first | exact nx_of rfl | exact nx_nil rfl rfl | exact nx_int rfl rfl rfl)); (focus (rintro σ' w' hS' d K hK; go_simp; exact hK)); (focus kernel_rfl); (focus kernel_rfl); (focus kernel_rfl); (focus kernel_rfl); (focus (assumption))) | (refine anyX_takeU (i := 1) rfl rfl (by kernel_rfl) (by kernel_rfl) (by kernel_rfl) (by kernel_rfl) (by assumption) ?_)
    try walk_nrm
    first | (apply anyX_takeW (i := 2) rfl; (focus rfl); (focus (first | exact nx_of rfl | exact nx_nil rfl rfl | exact nx_int rfl rfl rfl)); (focus (rintro σ' w' hS' d K hK; go_simp; exact hK)); (focus kernel_rfl); (focus kernel_rfl); (focus kernel_rfl); (focus kernel_rfl); (focus (assumption))) | (refine anyX_takeU (i := 2) rfl rfl (by kernel_rfl) (by kernel_rfl) (by kernel_rfl) (by kernel_rfl) (by assumption) ?_)
    try walk_nrm
    first | (apply anyX_takeW (i := 3) rfl; (focus rfl); (focus (first | exact nx_of rfl | exact nx_nil rfl rfl | exact nx_int rfl rfl rfl)); (focus (rintro σ' w' hS' d K hK; go_simp; exact hK)); (focus kernel_rfl); (focus kernel_rfl); (focus kernel_rfl); (focus kernel_rfl); (focus (assumption))) | (refine anyX_takeU (i := 3) rfl rfl (by kernel_rfl) (by kernel_rfl) (by kernel_rfl) (by kernel_rfl) (by assumption) ?_)
    try walk_nrm
    first | (apply anyX_takeW (i := 4) rfl; (focus rfl); (focus (first | exact nx_of rfl | exact nx_nil rfl rfl | exact nx_int rfl rfl rfl)); (focus (rintro σ' w' hS' d K hK; go_simp; exact hK)); (focus kernel_rfl); (focus kernel_rfl); (focus kernel_rfl); (focus kernel_rfl); (focus (assumption))) | (refine anyX_takeU (i := 4) rfl rfl (by kernel_rfl) (by kernel_rfl) (by kernel_rfl) (by kernel_rfl) (by assumption) ?_)
    try walk_nrm
    first | (apply anyX_takeW (i := 5) rfl; (focus rfl); (focus (first | exact nx_of rfl | exact nx_nil rfl rfl | exact nx_int rfl rfl rfl)); (focus (rintro σ' w' hS' d K hK; go_simp; exact hK)); (focus kernel_rfl); (focus kernel_rfl); (focus kernel_rfl); (focus kernel_rfl); (focus (assumption))) | (refine anyX_takeU (i := 5) rfl rfl (by kernel_rfl) (by kernel_rfl) (by kernel_rfl) (by kernel_rfl) (by assumption) ?_)
    try walk_nrm
    refine anyX_one (i := 6) (by kernel_rfl) (opX_call rfl (by rfl) rfl Try.func26 (by kernel_rfl) (by kernel_rfl) (new1 (m : Int)) (by simp only [List.map_toArray, List.map_cons, List.map_nil] <;> rfl) ?_)
    rintro _ σ'' w5 ⟨rfl, e2, N5⟩
    rw [e2]
    clear e2 σ''
    refine ⟨fun _ => (cell?_of_block (N5.old p hp)).trans c3, ?_⟩
    walk_nrm
    have d3 := (cell?_of_block (N5.old p hp)).trans c3
    refine anyX_one (i := 7) (by kernel_rfl) (opX_call rfl (by rfl) rfl Try.func26 (by kernel_rfl) (by kernel_rfl) (new1 0) (by simp only [List.map_toArray, List.map_cons, List.map_nil] <;> rfl) ?_)
    rintro _ σ'' w6 ⟨rfl, e2, N6⟩
    rw [e2]
    clear e2 σ''
    refine ⟨fun _ => (cell?_of_block (N6.old p (by show p < w5.heap.size; rw [N5.size]; omega))).trans d3, ?_⟩
    walk_nrm
    have f3 := (cell?_of_block (N6.old p (by show p < w5.heap.size; rw [N5.size]; omega))).trans d3
    first | (apply anyX_takeW (i := 8) rfl; (focus rfl); (focus (first | exact nx_of rfl | exact nx_nil rfl rfl | exact nx_int rfl rfl rfl)); (focus (rintro σ' w' hS' d K hK; go_simp; exact hK)); (focus kernel_rfl); (focus kernel_rfl); (focus kernel_rfl); (focus kernel_rfl); (focus (assumption))) | (refine anyX_takeU (i := 8) rfl rfl (by kernel_rfl) (by kernel_rfl) (by kernel_rfl) (by kernel_rfl) (by assumption) ?_)
    try walk_nrm
    refine anyX_one (i := 9) (by kernel_rfl) (opX_nw rfl (by rfl) (by first | exact nx_of rfl | exact nx_nil rfl rfl | exact nx_int rfl rfl rfl) (fun dd hS K' hK' => ?_))
    go_simp
    refine hK' _ _ _ ?_
    clear hK' K' hS dd
    refine ⟨fun _ => (cell?_of_block ((newO w6 _).old p (by show p < w6.heap.size; rw [N6.size, N5.size]; omega))).trans f3, ?_⟩
    try walk_nrm
    have N7 := newO w6 (.cells #[.pointer (some ⟨w4.heap.size, 0, none⟩), .pointer (some ⟨w5.heap.size, 0, none⟩)] 221)
    have n7 := cells_new w6 [.pointer (some ⟨w4.heap.size, 0, none⟩), .pointer (some ⟨w5.heap.size, 0, none⟩)] 221
    generalize w6.alloc (.cells #[.pointer (some ⟨w4.heap.size, 0, none⟩), .pointer (some ⟨w5.heap.size, 0, none⟩)] 221) = w7 at N7 n7 ⊢
    have own7 : w7.ownsRow w.heap.size 221 2 sv m (ptrs c' m) := row_later M.own fun k hk => by
      have := (row_ty M.own hk).2.1
      rw [N7.old k (by rw [N6.size, N5.size]; omega), N6.old k (by rw [N5.size]; omega), N5.old k (by omega)]
    have b7 : w.heap.size ≤ w7.heap.size := by have := M.size; rw [N7.size, N6.size, N5.size]; omega
    obtain ⟨i0, hi, hz0, hz1, hz2⟩ := info_parts (P := Try.prog) (e := 221) (z := .agg #[.pointer none, .pointer none]) (size := 2) (bytes := 16) (by kernel_rfl)
    refine anyX_one (i := 10) (by kernel_rfl) (opX_append (size := 2) (bytes := 16) rfl (by rfl) rfl Try.underlying93 hi hz0 hz1 hz2 rfl (by decide) w.heap.size rfl own7 rfl rfl n7 (fun x hx => by simp at hx; rcases hx with rfl | rfl <;> rfl) (by unfold maxLen; omega) (by omega) b7 (free_row own7 hfr) ?_)
    intro sv' w8 own8 g8 _ b8
    obtain ⟨bo, cp, rfl⟩ := row_slice own8
    have f8 : w8.cell? ⟨p, 3, none⟩ = some sv := by
      refine (cell?_of_block (g8.block p (by rw [N7.size, N6.size, N5.size]; omega) fun e => ?_)).trans ((cell?_of_block (N7.old p (by rw [N6.size, N5.size]; omega))).trans f3)
      obtain ⟨_, _, cur, h2⟩ := row_ty M.own e.symm
      have := h2.symm.trans M.hp; simp at this
    refine ⟨fun _ => f8, ?_⟩
    walk_nrm
    refine anyX_one (i := 11) (by kernel_rfl) (opX_nw rfl (by rfl) (by first | exact nx_of rfl | exact nx_nil rfl rfl | exact nx_int rfl rfl rfl) (fun dd hS K' hK' => ?_))
    go_simp
    refine hK' _ _ _ ?_
    clear hK' K' hS dd
    refine ⟨fun _ => f8, ?_⟩
    try walk_nrm
    refine anyX_one (i := 12) (by kernel_rfl) (opX_nw rfl (by rfl) (by first | exact nx_of rfl | exact nx_nil rfl rfl | exact nx_int rfl rfl rfl) (fun dd hS K' hK' => ?_))
    go_simp
    refine hK' _ _ _ ?_
    clear hK' K' hS dd
    refine ⟨fun _ => f8, ?_⟩
    try walk_nrm
    have h8 : w8.heap[p]? = some (.cells #[.pointer (some ⟨c' 0, 0, none⟩), .pointer (some ⟨c' 1, 0, none⟩), .pointer (some bell), sv] 95) := by
      rw [g8.block p (by rw [N7.size, N6.size, N5.size]; omega) fun e => ?_, N7.old p (by rw [N6.size, N5.size]; omega), N6.old p (by rw [N5.size]; omega), N5.old p hp, M.hp]
      obtain ⟨_, _, cur, h2⟩ := row_ty M.own e.symm
      have := h2.symm.trans M.hp; simp at this
    have z8 : w8.frozen? ⟨p, 3, none⟩ = false := frozen_of h8
    refine anyX_one (i := 13) (by kernel_rfl) (opX_store rfl (by rfl) rfl rfl f8 (hfr p M.p0) (fun dd hS K' hK' => ?_))
    go_simp
    refine hK' _ _ _ ?_
    clear hK' K' hS dd
    refine ⟨fun h => absurd h (by simp), ?_⟩
    try walk_nrm
    have hs := setO (i := 3) h8 (.slice bo (m + 1) cp)
    generalize w8.setCell ⟨p, 3, none⟩ (.slice bo (m + 1) cp) = w9 at hs ⊢
    refine anyX_end (by kernel_rfl) ?_
    have M' := M.more N5 N6 N7 own8 g8 b8 (by simpa using hs)
    repeat (first
      | refine y_seq ?_
      | (refine y_region ?_; simp only [List.size_toArray, List.length_cons, List.length_nil, Nat.reduceAdd, Nat.zero_add, List.range, List.range.loop])
      | refine y_regionEnd ?_
      | (refine y_nw rfl (by rfl) rfl (by first | exact nx_of rfl | exact nx_nil rfl rfl | exact nx_int rfl rfl rfl) (fun dd hS K hK => ?_); go_simp; refine hK _ _ _ ?_; clear hK K hS dd; simp only [recOf]; try walk_nrm)
      | (refine y_unwanted rfl (by rfl) ?_; try walk_nrm)
      | (refine y_cond true rfl ?_; simp only [if_true])
      | (refine y_cond false rfl ?_; simp only [Bool.false_eq_true, if_false])
      | refine y_skip ?_ | refine y_block ?_ | refine y_inBlock ?_ | refine y_label ?_ | refine y_exit rfl ?_ | refine y_ret ?_ | refine y_end ?_ | refine y_scope ?_ | refine y_inScope ?_)
    rw [wrap_small (by omega) (by omega), show (m : Int) + 1 = ((m + 1 : Nat) : Int) by omega]
    exact IH (n - (m + 1)) _ _ _ (by omega) ⟨rfl, m + 1, _, _, rfl, by omega, M', _, _, _, _, _, _, _, _, _, _, _, _, _, _, _, _, _, _, _, _, _, _, _, _, _, _, _, _, _, _, _, _, _, _, _, _, _, _, _, _, _, _, _, _, _, _, rfl⟩
  · obtain rfl : m = n := by omega
    have e1 : ¬ ((m : Int) < m) := by omega
    repeat (first
      | refine y_seq ?_
      | (refine y_region ?_; simp only [List.size_toArray, List.length_cons, List.length_nil, Nat.reduceAdd, Nat.zero_add, List.range, List.range.loop])
      | refine y_regionEnd ?_
      | (refine y_nw rfl (by rfl) rfl (by first | exact nx_of rfl | exact nx_nil rfl rfl | exact nx_int rfl rfl rfl) (fun dd hS K hK => ?_); go_simp; refine hK _ _ _ ?_; clear hK K hS dd; simp only [recOf]; try walk_nrm)
      | (refine y_unwanted rfl (by rfl) ?_; try walk_nrm)
      | (refine y_cond true rfl ?_; simp only [if_true])
      | (refine y_cond false rfl ?_; simp only [Bool.false_eq_true, if_false])
      | refine y_skip ?_ | refine y_block ?_ | refine y_inBlock ?_ | refine y_label ?_ | refine y_exit rfl ?_ | refine y_ret ?_ | refine y_end ?_ | refine y_scope ?_ | refine y_inScope ?_)
    refine y_leave rfl rfl Try.func45 (resultsC_tmp2 rfl _) ?_
    exact HH c' sv _ M

theorem pipe_new_nil (n : Nat) (h2 : 2 ≤ n) (h3 : n ≤ 4096) (hb : bits .and .i64 (n : Int) (IntKind.i64.wrap ((n : Int) - 1)) = 0) :
    CallsX J 45 #[.int .i64 n, .pointer none] σ w fun r σ' w' => σ' = σ ∧ ∃ p b c sv wx, r = .tuple #[.pointer (some ⟨p, 0, none⟩), .int .i64 0] ∧ Made w wx w' p (some ⟨b, 0, none⟩) c n sv ∧ w.heap.size ≤ b ∧ CellIs wx b 0 ∧ CellIs w' b 0 := by
  have n1 : ¬ ((n : Int) < 2) := by omega
  have n2 : ¬ ((4096 : Int) < n) := by omega
  refine callsX_body Try.func45 rfl fun c cs H HN => ?_
  simp only [Try.f45, Try.ntmps45, List.size_toArray, List.length_cons, List.length_nil, Nat.reduceAdd, Nat.reduceSub, Nat.zero_add, Array.replicate_succ, Array.replicate_zero, List.push_toArray, List.append_toArray, List.nil_append, List.cons_append, List.append_nil]
  repeat (first
    | refine y_seq ?_
    | (refine y_region ?_; simp only [List.size_toArray, List.length_cons, List.length_nil, Nat.reduceAdd, Nat.zero_add, List.range, List.range.loop])
    | refine y_regionEnd ?_
    | (refine y_nw rfl (by rfl) rfl (by first | exact nx_of rfl | exact nx_nil rfl rfl | exact nx_int rfl rfl rfl) (fun dd hS K hK => ?_); go_simp; refine hK _ _ _ ?_; clear hK K hS dd; simp only [recOf]; try walk_nrm)
    | (refine y_unwanted rfl (by rfl) ?_; try walk_nrm)
    | (refine y_cond true rfl ?_; simp only [if_true])
    | (refine y_cond false rfl ?_; simp only [Bool.false_eq_true, if_false])
    | refine y_skip ?_ | refine y_block ?_ | refine y_inBlock ?_ | refine y_label ?_ | refine y_exit rfl ?_ | refine y_ret ?_ | refine y_end ?_ | refine y_scope ?_ | refine y_inScope ?_)
  refine J.snd _ _ _ fun hS => ?_
  have hfr : ∀ b, w.heap.size ≤ b → σ.Free (· = b) := fun b hb => free_fresh hS hb
  refine y_callR rfl (by rfl) rfl rfl Try.func26 (by kernel_rfl) (by kernel_rfl) (new1 0) (by simp only [List.map_toArray, List.map_cons, List.map_nil] <;> rfl) ?_
  rintro _ σ'' w1 ⟨rfl, e2, N1⟩
  rw [e2]
  clear e2 σ''
  walk_nrm
  repeat (first
    | refine y_seq ?_
    | (refine y_region ?_; simp only [List.size_toArray, List.length_cons, List.length_nil, Nat.reduceAdd, Nat.zero_add, List.range, List.range.loop])
    | refine y_regionEnd ?_
    | (refine y_nw rfl (by rfl) rfl (by first | exact nx_of rfl | exact nx_nil rfl rfl | exact nx_int rfl rfl rfl) (fun dd hS K hK => ?_); go_simp; refine hK _ _ _ ?_; clear hK K hS dd; simp only [recOf]; try walk_nrm)
    | (refine y_unwanted rfl (by rfl) ?_; try walk_nrm)
    | (refine y_cond true rfl ?_; simp only [if_true])
    | (refine y_cond false rfl ?_; simp only [Bool.false_eq_true, if_false])
    | refine y_skip ?_ | refine y_block ?_ | refine y_inBlock ?_ | refine y_label ?_ | refine y_exit rfl ?_ | refine y_ret ?_ | refine y_end ?_ | refine y_scope ?_ | refine y_inScope ?_)
  refine y_callR rfl (by rfl) rfl rfl Try.func26 (by kernel_rfl) (by kernel_rfl) (new1 0) (by simp only [List.map_toArray, List.map_cons, List.map_nil] <;> rfl) ?_
  rintro _ σ'' w2 ⟨rfl, e2, N2⟩
  rw [e2]
  clear e2 σ''
  walk_nrm
  repeat (first
    | refine y_seq ?_
    | (refine y_region ?_; simp only [List.size_toArray, List.length_cons, List.length_nil, Nat.reduceAdd, Nat.zero_add, List.range, List.range.loop])
    | refine y_regionEnd ?_
    | (refine y_nw rfl (by rfl) rfl (by first | exact nx_of rfl | exact nx_nil rfl rfl | exact nx_int rfl rfl rfl) (fun dd hS K hK => ?_); go_simp; refine hK _ _ _ ?_; clear hK K hS dd; simp only [recOf]; try walk_nrm)
    | (refine y_unwanted rfl (by rfl) ?_; try walk_nrm)
    | (refine y_cond true rfl ?_; simp only [if_true])
    | (refine y_cond false rfl ?_; simp only [Bool.false_eq_true, if_false])
    | refine y_skip ?_ | refine y_block ?_ | refine y_inBlock ?_ | refine y_label ?_ | refine y_exit rfl ?_ | refine y_ret ?_ | refine y_end ?_ | refine y_scope ?_ | refine y_inScope ?_)
  have N3 := newO w2 (.cells #[.pointer (some ⟨w.heap.size, 0, none⟩), .pointer (some ⟨w1.heap.size, 0, none⟩), .pointer none, .slice none 0 0] 95)
  generalize w2.alloc (.cells #[.pointer (some ⟨w.heap.size, 0, none⟩), .pointer (some ⟨w1.heap.size, 0, none⟩), .pointer none, .slice none 0 0] 95) = w3 at N3 ⊢
  have M0 := made0 N1 N2 N3
  generalize hp : w2.heap.size = p at M0 ⊢
  refine y_callR rfl (by rfl) rfl rfl Try.func26 (by kernel_rfl) (by kernel_rfl) (new1 0) (by simp only [List.map_toArray, List.map_cons, List.map_nil] <;> rfl) ?_
  rintro _ σ'' w4 ⟨rfl, e2, N4⟩
  rw [e2]
  clear e2 σ''
  walk_nrm
  have hlt := lt_of_get M0.hp
  have h4 := (N4.old p hlt).trans M0.hp
  have c4 : w4.cell? ⟨p, 2, none⟩ = some (.pointer none) := by unfold World.cell?; rw [h4]; rfl
  have z4 : w4.frozen? ⟨p, 2, none⟩ = false := frozen_of h4
  (refine y_nw rfl (by rfl) rfl (by first | exact nx_of rfl | exact nx_nil rfl rfl | exact nx_int rfl rfl rfl) (fun dd hS K hK => ?_); go_simp; refine hK _ _ _ ?_; clear hK K hS dd; simp only [recOf]; try walk_nrm)
  (refine y_nw rfl (by rfl) rfl (by first | exact nx_of rfl | exact nx_nil rfl rfl | exact nx_int rfl rfl rfl) (fun dd hS K hK => ?_); go_simp; refine hK _ _ _ ?_; clear hK K hS dd; simp only [recOf]; try walk_nrm)
  (refine y_store rfl (by rfl) rfl rfl rfl c4 (hfr p M0.p0) (fun dd hS K hK => ?_); go_simp; refine hK _ _ _ ?_; clear hK K hS dd; simp only [recOf]; try walk_nrm)
  have hs := setO (i := 2) h4 (.pointer (some ⟨w3.heap.size, 0, none⟩))
  generalize w4.setCell ⟨p, 2, none⟩ (.pointer (some ⟨w3.heap.size, 0, none⟩)) = w5 at hs ⊢
  have M1 := M0.bell N4 (by simpa using hs)
  have hb5 : CellIs w5 w3.heap.size 0 := M1.kept _ _ N4.is
  have hsz : w.heap.size ≤ w3.heap.size := M0.size
  have HH : ∀ c' sv w', Made w w4 w' p (some ⟨w3.heap.size, 0, none⟩) c' n sv → J.Y σ (G (c.finish (.tuple #[.pointer (some ⟨p, 0, none⟩), .int .i64 0])) cs) w' := fun c' sv w' M => H _ _ _ ⟨rfl, p, _, c', sv, w4, rfl, M, hsz, N4.is, M.kept _ _ N4.is⟩
  clear H
  repeat (first
    | refine y_seq ?_
    | (refine y_region ?_; simp only [List.size_toArray, List.length_cons, List.length_nil, Nat.reduceAdd, Nat.zero_add, List.range, List.range.loop])
    | refine y_regionEnd ?_
    | (refine y_nw rfl (by rfl) rfl (by first | exact nx_of rfl | exact nx_nil rfl rfl | exact nx_int rfl rfl rfl) (fun dd hS K hK => ?_); go_simp; refine hK _ _ _ ?_; clear hK K hS dd; simp only [recOf]; try walk_nrm)
    | (refine y_unwanted rfl (by rfl) ?_; try walk_nrm)
    | (refine y_cond true rfl ?_; simp only [if_true])
    | (refine y_cond false rfl ?_; simp only [Bool.false_eq_true, if_false])
    | refine y_skip ?_ | refine y_block ?_ | refine y_inBlock ?_ | refine y_label ?_ | refine y_exit rfl ?_ | refine y_ret ?_ | refine y_end ?_ | refine y_scope ?_ | refine y_inScope ?_)
  generalize hbv : Value.pointer none = bv
  obtain ⟨bell, hbell⟩ : ∃ bell : Addr, bell = ⟨w3.heap.size, 0, none⟩ := ⟨_, rfl⟩
  rw [← hbell] at M1 HH
  obtain ⟨wx, M0, HH⟩ : ∃ wx, Made w wx w5 p (some bell) _ 0 _ ∧ ∀ c' sv w', Made w wx w' p (some bell) c' n sv → J.Y σ (G (c.finish (.tuple #[.pointer (some ⟨p, 0, none⟩), .int .i64 0])) cs) w' := ⟨w4, M1, HH⟩
  refine y_loopI (fun k a σ' w' => σ' = σ ∧ ∃ m c sv, k = n - m ∧ m ≤ n ∧ Made w wx w' p (some bell) c m sv ∧ ∃ j2 j3 j4 j5 j7 j8 j9 j10 j11 j12 j13 j14 j15 j16 j17 j18 j19 j20 j21 j22 j23 j24 j25 j26 j27 j28 j29 j30 j31 j34 j35 j36 j37 j38 j39 j40 j41 j42 j43 j44 j45 j46 j47 j48 j49 j50, a = ⟨#[.int .i64 n, bv, j2, j3, j4, j5, .pointer (some ⟨p, 0, none⟩), j7, j8, j9, j10, j11, j12, j13, j14, j15, j16, j17, j18, j19, j20, j21, j22, j23, j24, j25, j26, j27, j28, j29, j30, j31, .int .i64 n, .int .i64 (m : Int), j34, j35, j36, j37, j38, j39, j40, j41, j42, j43, j44, j45, j46, j47, j48, j49, j50], []⟩) n ⟨rfl, 0, _, _, by omega, by omega, M0, _, _, _, _, _, _, _, _, _, _, _, _, _, _, _, _, _, _, _, _, _, _, _, _, _, _, _, _, _, _, _, _, _, _, _, _, _, _, _, _, _, _, _, _, _, _, rfl⟩ ?_
  rintro k IH _ _ w4 ⟨rfl, m, c', sv, hk, hm, M, j2, j3, j4, j5, j7, j8, j9, j10, j11, j12, j13, j14, j15, j16, j17, j18, j19, j20, j21, j22, j23, j24, j25, j26, j27, j28, j29, j30, j31, j34, j35, j36, j37, j38, j39, j40, j41, j42, j43, j44, j45, j46, j47, j48, j49, j50, rfl⟩
  by_cases e : m < n
  · have e1 : (m : Int) < n := by omega
    repeat (first
      | refine y_seq ?_
      | (refine y_region ?_; simp only [List.size_toArray, List.length_cons, List.length_nil, Nat.reduceAdd, Nat.zero_add, List.range, List.range.loop])
      | refine y_regionEnd ?_
      | (refine y_nw rfl (by rfl) rfl (by first | exact nx_of rfl | exact nx_nil rfl rfl | exact nx_int rfl rfl rfl) (fun dd hS K hK => ?_); go_simp; refine hK _ _ _ ?_; clear hK K hS dd; simp only [recOf]; try walk_nrm)
      | (refine y_unwanted rfl (by rfl) ?_; try walk_nrm)
      | (refine y_cond true rfl ?_; simp only [if_true])
      | (refine y_cond false rfl ?_; simp only [Bool.false_eq_true, if_false])
      | refine y_skip ?_ | refine y_block ?_ | refine y_inBlock ?_ | refine y_label ?_ | refine y_exit rfl ?_ | refine y_ret ?_ | refine y_end ?_ | refine y_scope ?_ | refine y_inScope ?_)
    have hp := lt_of_get M.hp
    have c3 := M.cell3
    refine y_drawnQ (fun _ w' => w'.cell? ⟨p, 3, none⟩ = some sv) (fun j => j == 13) (by kernel_rfl) rfl ?_
    simp only [List.size_toArray, List.length_cons, List.length_nil, Nat.reduceAdd, Nat.reduceSub, Nat.zero_add, Array.replicate_succ, Array.replicate_zero, List.push_toArray, List.append_toArray, List.nil_append, List.cons_append, List.append_nil]
    first | (apply anyX_takeW (i := 0) rfl; (focus rfl); (focus (first | exact nx_of rfl | exact nx_nil rfl rfl | exact nx_int rfl rfl rfl)); (focus (rintro σ' w' hS' d K hK; go_simp; exact hK)); (focus kernel_rfl); (focus kernel_rfl); (focus kernel_rfl); (focus kernel_rfl); (focus (assumption))) | (refine anyX_takeU (i := 0) rfl rfl (by kernel_rfl) (by kernel_rfl) (by kernel_rfl) (by kernel_rfl) (by assumption) ?_)
    try walk_nrm
    first | (apply anyX_takeW (i := 1) rfl; (focus rfl); (focus (first | exact nx_of rfl | exact nx_nil rfl rfl | exact nx_int rfl rfl rfl)); (focus (rintro σ' w' hS' d K hK; go_simp; exact hK)); (focus kernel_rfl); (focus kernel_rfl); (focus kernel_rfl); (focus kernel_rfl); (focus (assumption))) | (refine anyX_takeU (i := 1) rfl rfl (by kernel_rfl) (by kernel_rfl) (by kernel_rfl) (by kernel_rfl) (by assumption) ?_)
    try walk_nrm
    first | (apply anyX_takeW (i := 2) rfl; (focus rfl); (focus (first | exact nx_of rfl | exact nx_nil rfl rfl | exact nx_int rfl rfl rfl)); (focus (rintro σ' w' hS' d K hK; go_simp; exact hK)); (focus kernel_rfl); (focus kernel_rfl); (focus kernel_rfl); (focus kernel_rfl); (focus (assumption))) | (refine anyX_takeU (i := 2) rfl rfl (by kernel_rfl) (by kernel_rfl) (by kernel_rfl) (by kernel_rfl) (by assumption) ?_)
    try walk_nrm
    first | (apply anyX_takeW (i := 3) rfl; (focus rfl); (focus (first | exact nx_of rfl | exact nx_nil rfl rfl | exact nx_int rfl rfl rfl)); (focus (rintro σ' w' hS' d K hK; go_simp; exact hK)); (focus kernel_rfl); (focus kernel_rfl); (focus kernel_rfl); (focus kernel_rfl); (focus (assumption))) | (refine anyX_takeU (i := 3) rfl rfl (by kernel_rfl) (by kernel_rfl) (by kernel_rfl) (by kernel_rfl) (by assumption) ?_)
    try walk_nrm
    first | (apply anyX_takeW (i := 4) rfl; (focus rfl); (focus (first | exact nx_of rfl | exact nx_nil rfl rfl | exact nx_int rfl rfl rfl)); (focus (rintro σ' w' hS' d K hK; go_simp; exact hK)); (focus kernel_rfl); (focus kernel_rfl); (focus kernel_rfl); (focus kernel_rfl); (focus (assumption))) | (refine anyX_takeU (i := 4) rfl rfl (by kernel_rfl) (by kernel_rfl) (by kernel_rfl) (by kernel_rfl) (by assumption) ?_)
    try walk_nrm
    first | (apply anyX_takeW (i := 5) rfl; (focus rfl); (focus (first | exact nx_of rfl | exact nx_nil rfl rfl | exact nx_int rfl rfl rfl)); (focus (rintro σ' w' hS' d K hK; go_simp; exact hK)); (focus kernel_rfl); (focus kernel_rfl); (focus kernel_rfl); (focus kernel_rfl); (focus (assumption))) | (refine anyX_takeU (i := 5) rfl rfl (by kernel_rfl) (by kernel_rfl) (by kernel_rfl) (by kernel_rfl) (by assumption) ?_)
    try walk_nrm
    refine anyX_one (i := 6) (by kernel_rfl) (opX_call rfl (by rfl) rfl Try.func26 (by kernel_rfl) (by kernel_rfl) (new1 (m : Int)) (by simp only [List.map_toArray, List.map_cons, List.map_nil] <;> rfl) ?_)
    rintro _ σ'' w5 ⟨rfl, e2, N5⟩
    rw [e2]
    clear e2 σ''
    refine ⟨fun _ => (cell?_of_block (N5.old p hp)).trans c3, ?_⟩
    walk_nrm
    have d3 := (cell?_of_block (N5.old p hp)).trans c3
    refine anyX_one (i := 7) (by kernel_rfl) (opX_call rfl (by rfl) rfl Try.func26 (by kernel_rfl) (by kernel_rfl) (new1 0) (by simp only [List.map_toArray, List.map_cons, List.map_nil] <;> rfl) ?_)
    rintro _ σ'' w6 ⟨rfl, e2, N6⟩
    rw [e2]
    clear e2 σ''
    refine ⟨fun _ => (cell?_of_block (N6.old p (by show p < w5.heap.size; rw [N5.size]; omega))).trans d3, ?_⟩
    walk_nrm
    have f3 := (cell?_of_block (N6.old p (by show p < w5.heap.size; rw [N5.size]; omega))).trans d3
    first | (apply anyX_takeW (i := 8) rfl; (focus rfl); (focus (first | exact nx_of rfl | exact nx_nil rfl rfl | exact nx_int rfl rfl rfl)); (focus (rintro σ' w' hS' d K hK; go_simp; exact hK)); (focus kernel_rfl); (focus kernel_rfl); (focus kernel_rfl); (focus kernel_rfl); (focus (assumption))) | (refine anyX_takeU (i := 8) rfl rfl (by kernel_rfl) (by kernel_rfl) (by kernel_rfl) (by kernel_rfl) (by assumption) ?_)
    try walk_nrm
    refine anyX_one (i := 9) (by kernel_rfl) (opX_nw rfl (by rfl) (by first | exact nx_of rfl | exact nx_nil rfl rfl | exact nx_int rfl rfl rfl) (fun dd hS K' hK' => ?_))
    go_simp
    refine hK' _ _ _ ?_
    clear hK' K' hS dd
    refine ⟨fun _ => (cell?_of_block ((newO w6 _).old p (by show p < w6.heap.size; rw [N6.size, N5.size]; omega))).trans f3, ?_⟩
    try walk_nrm
    have N7 := newO w6 (.cells #[.pointer (some ⟨w4.heap.size, 0, none⟩), .pointer (some ⟨w5.heap.size, 0, none⟩)] 221)
    have n7 := cells_new w6 [.pointer (some ⟨w4.heap.size, 0, none⟩), .pointer (some ⟨w5.heap.size, 0, none⟩)] 221
    generalize w6.alloc (.cells #[.pointer (some ⟨w4.heap.size, 0, none⟩), .pointer (some ⟨w5.heap.size, 0, none⟩)] 221) = w7 at N7 n7 ⊢
    have own7 : w7.ownsRow w.heap.size 221 2 sv m (ptrs c' m) := row_later M.own fun k hk => by
      have := (row_ty M.own hk).2.1
      rw [N7.old k (by rw [N6.size, N5.size]; omega), N6.old k (by rw [N5.size]; omega), N5.old k (by omega)]
    have b7 : w.heap.size ≤ w7.heap.size := by have := M.size; rw [N7.size, N6.size, N5.size]; omega
    obtain ⟨i0, hi, hz0, hz1, hz2⟩ := info_parts (P := Try.prog) (e := 221) (z := .agg #[.pointer none, .pointer none]) (size := 2) (bytes := 16) (by kernel_rfl)
    refine anyX_one (i := 10) (by kernel_rfl) (opX_append (size := 2) (bytes := 16) rfl (by rfl) rfl Try.underlying93 hi hz0 hz1 hz2 rfl (by decide) w.heap.size rfl own7 rfl rfl n7 (fun x hx => by simp at hx; rcases hx with rfl | rfl <;> rfl) (by unfold maxLen; omega) (by omega) b7 (free_row own7 hfr) ?_)
    intro sv' w8 own8 g8 _ b8
    obtain ⟨bo, cp, rfl⟩ := row_slice own8
    have f8 : w8.cell? ⟨p, 3, none⟩ = some sv := by
      refine (cell?_of_block (g8.block p (by rw [N7.size, N6.size, N5.size]; omega) fun e => ?_)).trans ((cell?_of_block (N7.old p (by rw [N6.size, N5.size]; omega))).trans f3)
      obtain ⟨_, _, cur, h2⟩ := row_ty M.own e.symm
      have := h2.symm.trans M.hp; simp at this
    refine ⟨fun _ => f8, ?_⟩
    walk_nrm
    refine anyX_one (i := 11) (by kernel_rfl) (opX_nw rfl (by rfl) (by first | exact nx_of rfl | exact nx_nil rfl rfl | exact nx_int rfl rfl rfl) (fun dd hS K' hK' => ?_))
    go_simp
    refine hK' _ _ _ ?_
    clear hK' K' hS dd
    refine ⟨fun _ => f8, ?_⟩
    try walk_nrm
    refine anyX_one (i := 12) (by kernel_rfl) (opX_nw rfl (by rfl) (by first | exact nx_of rfl | exact nx_nil rfl rfl | exact nx_int rfl rfl rfl) (fun dd hS K' hK' => ?_))
    go_simp
    refine hK' _ _ _ ?_
    clear hK' K' hS dd
    refine ⟨fun _ => f8, ?_⟩
    try walk_nrm
    have h8 : w8.heap[p]? = some (.cells #[.pointer (some ⟨c' 0, 0, none⟩), .pointer (some ⟨c' 1, 0, none⟩), .pointer (some bell), sv] 95) := by
      rw [g8.block p (by rw [N7.size, N6.size, N5.size]; omega) fun e => ?_, N7.old p (by rw [N6.size, N5.size]; omega), N6.old p (by rw [N5.size]; omega), N5.old p hp, M.hp]
      obtain ⟨_, _, cur, h2⟩ := row_ty M.own e.symm
      have := h2.symm.trans M.hp; simp at this
    have z8 : w8.frozen? ⟨p, 3, none⟩ = false := frozen_of h8
    refine anyX_one (i := 13) (by kernel_rfl) (opX_store rfl (by rfl) rfl rfl f8 (hfr p M.p0) (fun dd hS K' hK' => ?_))
    go_simp
    refine hK' _ _ _ ?_
    clear hK' K' hS dd
    refine ⟨fun h => absurd h (by simp), ?_⟩
    try walk_nrm
    have hs := setO (i := 3) h8 (.slice bo (m + 1) cp)
    generalize w8.setCell ⟨p, 3, none⟩ (.slice bo (m + 1) cp) = w9 at hs ⊢
    refine anyX_end (by kernel_rfl) ?_
    have M' := M.more N5 N6 N7 own8 g8 b8 (by simpa using hs)
    repeat (first
      | refine y_seq ?_
      | (refine y_region ?_; simp only [List.size_toArray, List.length_cons, List.length_nil, Nat.reduceAdd, Nat.zero_add, List.range, List.range.loop])
      | refine y_regionEnd ?_
      | (refine y_nw rfl (by rfl) rfl (by first | exact nx_of rfl | exact nx_nil rfl rfl | exact nx_int rfl rfl rfl) (fun dd hS K hK => ?_); go_simp; refine hK _ _ _ ?_; clear hK K hS dd; simp only [recOf]; try walk_nrm)
      | (refine y_unwanted rfl (by rfl) ?_; try walk_nrm)
      | (refine y_cond true rfl ?_; simp only [if_true])
      | (refine y_cond false rfl ?_; simp only [Bool.false_eq_true, if_false])
      | refine y_skip ?_ | refine y_block ?_ | refine y_inBlock ?_ | refine y_label ?_ | refine y_exit rfl ?_ | refine y_ret ?_ | refine y_end ?_ | refine y_scope ?_ | refine y_inScope ?_)
    rw [wrap_small (by omega) (by omega), show (m : Int) + 1 = ((m + 1 : Nat) : Int) by omega]
    exact IH (n - (m + 1)) _ _ _ (by omega) ⟨rfl, m + 1, _, _, rfl, by omega, M', _, _, _, _, _, _, _, _, _, _, _, _, _, _, _, _, _, _, _, _, _, _, _, _, _, _, _, _, _, _, _, _, _, _, _, _, _, _, _, _, _, _, _, _, _, _, rfl⟩
  · obtain rfl : m = n := by omega
    have e1 : ¬ ((m : Int) < m) := by omega
    repeat (first
      | refine y_seq ?_
      | (refine y_region ?_; simp only [List.size_toArray, List.length_cons, List.length_nil, Nat.reduceAdd, Nat.zero_add, List.range, List.range.loop])
      | refine y_regionEnd ?_
      | (refine y_nw rfl (by rfl) rfl (by first | exact nx_of rfl | exact nx_nil rfl rfl | exact nx_int rfl rfl rfl) (fun dd hS K hK => ?_); go_simp; refine hK _ _ _ ?_; clear hK K hS dd; simp only [recOf]; try walk_nrm)
      | (refine y_unwanted rfl (by rfl) ?_; try walk_nrm)
      | (refine y_cond true rfl ?_; simp only [if_true])
      | (refine y_cond false rfl ?_; simp only [Bool.false_eq_true, if_false])
      | refine y_skip ?_ | refine y_block ?_ | refine y_inBlock ?_ | refine y_label ?_ | refine y_exit rfl ?_ | refine y_ret ?_ | refine y_end ?_ | refine y_scope ?_ | refine y_inScope ?_)
    refine y_leave rfl rfl Try.func45 (resultsC_tmp2 rfl _) ?_
    exact HH c' sv _ M
end Go.Proofs.Ytcibnfjpagmdaaa
