/- LatchNew: the walk. -/
import Derived.Test.YtcibnfjpagmdaaaWorks5
import Derived.Test.YtcibnfjpagmdaaaQuiet
set_option linter.unusedSimpArgs false
set_option linter.unusedVariables false
set_option maxRecDepth 100000
set_option maxHeartbeats 8000000
namespace Go.Proofs.Ytcibnfjpagmdaaa
open Go.TX Go.Conc Go.RowKit Go.MapKept

section
variable {J : Judge Try.prog} {σ : Cfg} {w : World}

/-- Things that are none. -/
def NoneP (w : World) (z : Value) (X : Value) : Prop := X = .pointer none ∨ ∃ l, X = .pointer (some ⟨l, 0, none⟩) ∧ w.cell? ⟨l, 0, none⟩ = some z
theorem down_none {X t : Value} {k : Int} (h : NoneP w (.pointer none) X) : CallsX J 91 #[X, t, .int .i64 k] σ w fun v σ' w' => v = .int .i64 2 ∧ σ' = σ ∧ w' = w := by
  rcases h with rfl | ⟨l, rfl, hl⟩
  · exact down_nil
  · exact down_bare hl
theorem wait_none {X t : Value} (h : NoneP w (.pointer none) X) : CallsX J 93 #[X, t] σ w fun v σ' w' => v = .int .i64 2 ∧ σ' = σ ∧ w' = w := by
  rcases h with rfl | ⟨l, rfl, hl⟩
  · exact wait_nil
  · exact wait_bare hl
theorem left_none {X t : Value} (h : NoneP w (.pointer none) X) : CallsX J 94 #[X, t] σ w fun v σ' w' => v = .int .i64 0 ∧ σ' = σ ∧ w' = w := by
  rcases h with rfl | ⟨l, rfl, hl⟩
  · exact left_nil
  · exact left_bare hl
theorem lock_none {X t : Value} (h : NoneP w (.pointer none) X) : CallsX J 84 #[X, t] σ w fun v σ' w' => v = .int .i64 2 ∧ σ' = σ ∧ w' = w := by
  rcases h with rfl | ⟨l, rfl, hl⟩
  · exact lock_nil
  · exact lock_bare hl
theorem try_none {X t : Value} (h : NoneP w (.pointer none) X) : CallsX J 83 #[X, t] σ w fun v σ' w' => v = .bool false ∧ σ' = σ ∧ w' = w := by
  rcases h with rfl | ⟨l, rfl, hl⟩
  · exact try_nil
  · exact try_bare hl
theorem unlock_none {X t : Value} (h : NoneP w (.pointer none) X) : CallsX J 85 #[X, t] σ w fun v σ' w' => v = .int .i64 2 ∧ σ' = σ ∧ w' = w := by
  rcases h with rfl | ⟨l, rfl, hl⟩
  · exact unlock_nil
  · exact unlock_bare hl
theorem arrive_none {X t : Value} (h : NoneP w (.int .i64 0) X) : CallsX J 88 #[X, t] σ w fun v σ' w' => v = .tuple #[.int .i64 0, .bool false, .int .i64 2] ∧ σ' = σ ∧ w' = w := by
  rcases h with rfl | ⟨l, rfl, hl⟩
  · exact arrive_nil
  · exact arrive_bare hl

/-- The body: of things that are none. -/
theorem none5 {t : Value} {g kb : Nat} {k : Int} (hg : w.heap[g]? = some (.cells #[.bool true] 4)) (hk : w.heap[kb]? = some (.cells #[.int .i64 k] 2)) (hf : σ.Free (· = g)) :
    CallsX J 95 #[t, .pointer (some ⟨g, 0, none⟩), .pointer (some ⟨kb, 0, none⟩)] σ w fun v σ' w' => v = .tuple #[] ∧ σ' = σ ∧ Bigger w w' := by
  refine callsX_body Try.func95 rfl fun c cs H HN => ?_
  simp only [Try.f95, Try.ntmps95, List.size_toArray, List.length_cons, List.length_nil, Nat.reduceAdd, Nat.reduceSub, Nat.zero_add, Array.replicate_succ, Array.replicate_zero, List.push_toArray, List.append_toArray, List.nil_append, List.cons_append, List.append_nil]
  have cg : w.cell? ⟨g, 0, none⟩ = some (.bool true) := by unfold World.cell?; rw [hg]; rfl
  have ck : w.cell? ⟨kb, 0, none⟩ = some (.int .i64 k) := by unfold World.cell?; rw [hk]; rfl
  replace H := Keep.mk H
  replace hg := Keep.mk hg
  replace hk := Keep.mk hk
  replace hf := Keep.mk hf
  repeat (first
    | refine y_go rfl ?_
    | (refine y_region ?_; simp only [rg, Nat.reduceAdd, List.range, List.range.loop])
    | (refine y_nw rfl (by rfl) rfl (by exact nx rfl) (fun dd hS K hK => ?_); go_simp; refine hK _ _ _ ?_; clear hK K hS dd; simp only [recOf]; try walk_nrm)
    | (refine y_unwanted rfl (by rfl) ?_; try walk_nrm) | refine y_condT rfl ?_ | refine y_condF rfl ?_
    | refine y_block ?_ | refine y_label ?_ | refine y_ret ?_ | refine y_end ?_)
  refine y_loopI (fun r a σ' w' => σ' = σ ∧ ∃ (i : Nat) (X4 X5 X6 : Value), i ≤ 2 ∧ r = 2 - i ∧ Bigger w w' ∧ NoneP w' (.pointer none) X4 ∧ NoneP w' (.pointer none) X5 ∧ NoneP w' (.int .i64 0) X6 ∧
      Tm a 78 [(0, t), (1, .pointer (some ⟨g, 0, none⟩)), (2, .pointer (some ⟨kb, 0, none⟩)), (4, X4), (5, X5), (6, X6), (7, .int .i64 i)]) 2
    ⟨rfl, 0, _, _, _, by omega, rfl, Bigger.refl w, .inl rfl, .inl rfl, .inl rfl, ⟨rfl, rfl, rfl, rfl, rfl, rfl, rfl, rfl, rfl, trivial⟩⟩ ?_
  rintro r IH a σ w1 ⟨rfl, i, X4, X5, X6, hi, hr, B, N4, N5, N6, hT⟩
  obtain ⟨j, rfl, h0', h1', h2', h3', h4', h5', h6', -⟩ := Tm.lit hT
  simp only at h0' h1' h2' h3' h4' h5' h6'
  simp only [List.range, List.range.loop, List.map_cons, List.map_nil, h0', h1', h2', h3', h4', h5', h6']
  clear h0' h1' h2' h3' h4' h5' h6' hT
  by_cases e : i < 2
  · have e1 : (i : Int) < 2 := by omega
    have hg1 := B.is hg.out
    have cg : w1.cell? ⟨g, 0, none⟩ = some (.bool true) := by unfold World.cell?; rw [hg1]; rfl
    have ck : w1.cell? ⟨kb, 0, none⟩ = some (.int .i64 k) := by unfold World.cell?; rw [B.is hk.out]; rfl
    replace IH := Keep.mk IH
    replace B := Keep.mk B
    replace N4 := Keep.mk N4
    replace N5 := Keep.mk N5
    replace N6 := Keep.mk N6
    replace hi := Keep.mk hi
    replace hr := Keep.mk hr
    replace e := Keep.mk e
    replace hg1 := Keep.mk hg1
    repeat (first
      | refine y_go rfl ?_
      | (refine y_region ?_; simp only [rg, Nat.reduceAdd, List.range, List.range.loop])
      | (refine y_nw rfl (by rfl) rfl (by exact nx rfl) (fun dd hS K hK => ?_); go_simp; refine hK _ _ _ ?_; clear hK K hS dd; simp only [recOf]; try walk_nrm)
      | (refine y_unwanted rfl (by rfl) ?_; try walk_nrm) | refine y_condT rfl ?_ | refine y_condF rfl ?_
      | refine y_block ?_ | refine y_label ?_ | refine y_ret ?_ | refine y_end ?_)
    refine y_callR rfl (by rfl) rfl rfl Try.func88 (by kernel_rfl) (by kernel_rfl) (arrive_none N6.out) (by simp only [List.map_toArray, List.map_cons, List.map_nil] <;> rfl) ?_
    rintro _ σ'' w'' ⟨rfl, e2, e3⟩
    rw [e2, e3]
    clear e2 e3 w'' σ''
    walk_nrm
    repeat (first
      | refine y_go rfl ?_
      | (refine y_region ?_; simp only [rg, Nat.reduceAdd, List.range, List.range.loop])
      | (refine y_nw rfl (by rfl) rfl (by exact nx rfl) (fun dd hS K hK => ?_); go_simp; refine hK _ _ _ ?_; clear hK K hS dd; simp only [recOf]; try walk_nrm)
      | (refine y_unwanted rfl (by rfl) ?_; try walk_nrm) | refine y_condT rfl ?_ | refine y_condF rfl ?_
      | refine y_block ?_ | refine y_label ?_ | refine y_ret ?_ | refine y_end ?_)
    refine y_callR rfl (by rfl) rfl rfl Try.func91 (by kernel_rfl) (by kernel_rfl) (down_none N4.out) (by simp only [List.map_toArray, List.map_cons, List.map_nil] <;> rfl) ?_
    rintro _ σ'' w'' ⟨rfl, e2, e3⟩
    rw [e2, e3]
    clear e2 e3 w'' σ''
    walk_nrm
    repeat (first
      | refine y_go rfl ?_
      | (refine y_region ?_; simp only [rg, Nat.reduceAdd, List.range, List.range.loop])
      | (refine y_nw rfl (by rfl) rfl (by exact nx rfl) (fun dd hS K hK => ?_); go_simp; refine hK _ _ _ ?_; clear hK K hS dd; simp only [recOf]; try walk_nrm)
      | (refine y_unwanted rfl (by rfl) ?_; try walk_nrm) | refine y_condT rfl ?_ | refine y_condF rfl ?_
      | refine y_block ?_ | refine y_label ?_ | refine y_ret ?_ | refine y_end ?_)
    refine y_callR rfl (by rfl) rfl rfl Try.func93 (by kernel_rfl) (by kernel_rfl) (wait_none N4.out) (by simp only [List.map_toArray, List.map_cons, List.map_nil] <;> rfl) ?_
    rintro _ σ'' w'' ⟨rfl, e2, e3⟩
    rw [e2, e3]
    clear e2 e3 w'' σ''
    walk_nrm
    repeat (first
      | refine y_go rfl ?_
      | (refine y_region ?_; simp only [rg, Nat.reduceAdd, List.range, List.range.loop])
      | (refine y_nw rfl (by rfl) rfl (by exact nx rfl) (fun dd hS K hK => ?_); go_simp; refine hK _ _ _ ?_; clear hK K hS dd; simp only [recOf]; try walk_nrm)
      | (refine y_unwanted rfl (by rfl) ?_; try walk_nrm) | refine y_condT rfl ?_ | refine y_condF rfl ?_
      | refine y_block ?_ | refine y_label ?_ | refine y_ret ?_ | refine y_end ?_)
    refine y_callR rfl (by rfl) rfl rfl Try.func94 (by kernel_rfl) (by kernel_rfl) (left_none N4.out) (by simp only [List.map_toArray, List.map_cons, List.map_nil] <;> rfl) ?_
    rintro _ σ'' w'' ⟨rfl, e2, e3⟩
    rw [e2, e3]
    clear e2 e3 w'' σ''
    walk_nrm
    repeat (first
      | refine y_go rfl ?_
      | (refine y_region ?_; simp only [rg, Nat.reduceAdd, List.range, List.range.loop])
      | (refine y_nw rfl (by rfl) rfl (by exact nx rfl) (fun dd hS K hK => ?_); go_simp; refine hK _ _ _ ?_; clear hK K hS dd; simp only [recOf]; try walk_nrm)
      | (refine y_unwanted rfl (by rfl) ?_; try walk_nrm) | refine y_condT rfl ?_ | refine y_condF rfl ?_
      | refine y_block ?_ | refine y_label ?_ | refine y_ret ?_ | refine y_end ?_)
    refine y_callR rfl (by rfl) rfl rfl Try.func84 (by kernel_rfl) (by kernel_rfl) (lock_none N5.out) (by simp only [List.map_toArray, List.map_cons, List.map_nil] <;> rfl) ?_
    rintro _ σ'' w'' ⟨rfl, e2, e3⟩
    rw [e2, e3]
    clear e2 e3 w'' σ''
    walk_nrm
    repeat (first
      | refine y_go rfl ?_
      | (refine y_region ?_; simp only [rg, Nat.reduceAdd, List.range, List.range.loop])
      | (refine y_nw rfl (by rfl) rfl (by exact nx rfl) (fun dd hS K hK => ?_); go_simp; refine hK _ _ _ ?_; clear hK K hS dd; simp only [recOf]; try walk_nrm)
      | (refine y_unwanted rfl (by rfl) ?_; try walk_nrm) | refine y_condT rfl ?_ | refine y_condF rfl ?_
      | refine y_block ?_ | refine y_label ?_ | refine y_ret ?_ | refine y_end ?_)
    refine y_callR rfl (by rfl) rfl rfl Try.func83 (by kernel_rfl) (by kernel_rfl) (try_none N5.out) (by simp only [List.map_toArray, List.map_cons, List.map_nil] <;> rfl) ?_
    rintro _ σ'' w'' ⟨rfl, e2, e3⟩
    rw [e2, e3]
    clear e2 e3 w'' σ''
    walk_nrm
    repeat (first
      | refine y_go rfl ?_
      | (refine y_region ?_; simp only [rg, Nat.reduceAdd, List.range, List.range.loop])
      | (refine y_nw rfl (by rfl) rfl (by exact nx rfl) (fun dd hS K hK => ?_); go_simp; refine hK _ _ _ ?_; clear hK K hS dd; simp only [recOf]; try walk_nrm)
      | (refine y_unwanted rfl (by rfl) ?_; try walk_nrm) | refine y_condT rfl ?_ | refine y_condF rfl ?_
      | refine y_block ?_ | refine y_label ?_ | refine y_ret ?_ | refine y_end ?_)
    refine y_callR rfl (by rfl) rfl rfl Try.func85 (by kernel_rfl) (by kernel_rfl) (unlock_none N5.out) (by simp only [List.map_toArray, List.map_cons, List.map_nil] <;> rfl) ?_
    rintro _ σ'' w'' ⟨rfl, e2, e3⟩
    rw [e2, e3]
    clear e2 e3 w'' σ''
    walk_nrm
    repeat (first
      | refine y_go rfl ?_
      | (refine y_region ?_; simp only [rg, Nat.reduceAdd, List.range, List.range.loop])
      | (refine y_nw rfl (by rfl) rfl (by exact nx rfl) (fun dd hS K hK => ?_); go_simp; refine hK _ _ _ ?_; clear hK K hS dd; simp only [recOf]; try walk_nrm)
      | (refine y_unwanted rfl (by rfl) ?_; try walk_nrm) | refine y_condT rfl ?_ | refine y_condF rfl ?_
      | refine y_block ?_ | refine y_label ?_ | refine y_ret ?_ | refine y_end ?_)
    refine y_storeC (vs := #[.bool true]) rfl (by rfl) rfl rfl rfl rfl rfl hg1.out (by first | kernel_rfl | rfl) (Nat.le_of_ble_eq_true rfl) (by simp [Value.oneCell']) (Cfg.Free.cells hf.out) (fun w2 S2 => ?_)
    try walk_nrm
    have hg2 : w2.heap[g]? = some (.cells #[.bool true] 4) := S2.is
    have B2 : Bigger w w2 := ⟨by rw [S2.size]; exact B.out.size, fun b hb => by
      by_cases eb : b = g
      · subst eb; rw [hg2, hg.out]
      · exact (S2.other b eb).trans (B.out.old b hb)⟩
    clear S2 cg ck
    replace B2 := Keep.mk B2
    replace hg2 := Keep.mk hg2
    repeat (first
      | refine y_go rfl ?_
      | (refine y_region ?_; simp only [rg, Nat.reduceAdd, List.range, List.range.loop])
      | (refine y_nw rfl (by rfl) rfl (by exact nx rfl) (fun dd hS K hK => ?_); go_simp; refine hK _ _ _ ?_; clear hK K hS dd; simp only [recOf]; try walk_nrm)
      | (refine y_unwanted rfl (by rfl) ?_; try walk_nrm) | refine y_condT rfl ?_ | refine y_condF rfl ?_
      | refine y_block ?_ | refine y_label ?_ | refine y_ret ?_ | refine y_end ?_)
    have N7 := newO w2 (.cells #[.pointer none] 169)
    generalize w2.alloc (.cells #[.pointer none] 169) = w3 at N7 ⊢
    have N8 := newO w3 (.cells #[.pointer none] 171)
    generalize w3.alloc (.cells #[.pointer none] 171) = w4 at N8 ⊢
    have N9 := newO w4 (.cells #[.int .i64 0, .pointer none, .pointer none] 174)
    generalize w4.alloc (.cells #[.int .i64 0, .pointer none, .pointer none] 174) = w5 at N9 ⊢
    have z7 := N7.size
    have z8 := N8.size
    have z9 := N9.size
    have i7 := (N9.old _ (by omega)).trans ((N8.old _ (by omega)).trans N7.is)
    have i8 := (N9.old _ (by omega)).trans N8.is
    have i9 := N9.is
    rw [z7] at i8
    rw [show w4.heap.size = w2.heap.size + 1 + 1 by omega] at i9
    have B5 : Bigger w w5 := ⟨by have := B2.out.size; omega, fun b hb => (N9.old b (by have := B2.out.size; omega)).trans ((N8.old b (by have := B2.out.size; omega)).trans ((N7.old b (by have := B2.out.size; omega)).trans (B2.out.old b hb)))⟩
    replace IH := Keep.out IH
    replace hi := Keep.out hi
    replace hr := Keep.out hr
    replace e := Keep.out e
    rw [wrap_small (by omega) (by omega), show (i : Int) + 1 = ((i + 1 : Nat) : Int) by omega]
    refine IH _ _ _ _ (by omega) ⟨rfl, i + 1, .pointer (some ⟨w2.heap.size, 0, none⟩), .pointer (some ⟨w2.heap.size + 1, 0, none⟩), .pointer (some ⟨w2.heap.size + 1 + 1, 0, none⟩), by omega, rfl, B5, .inr ⟨_, rfl, by unfold World.cell?; rw [i7]; rfl⟩, .inr ⟨_, rfl, by unfold World.cell?; rw [i8]; rfl⟩, .inr ⟨_, rfl, by unfold World.cell?; rw [i9]; rfl⟩, ⟨rfl, rfl, rfl, rfl, rfl, rfl, rfl, rfl, rfl, trivial⟩⟩
  · have e1 : ¬ ((i : Int) < 2) := by omega
    replace IH := Keep.mk IH
    replace B := Keep.mk B
    replace N4 := Keep.mk N4
    replace N5 := Keep.mk N5
    replace N6 := Keep.mk N6
    replace hi := Keep.mk hi
    replace hr := Keep.mk hr
    replace e := Keep.mk e
    repeat (first
      | refine y_go rfl ?_
      | (refine y_region ?_; simp only [rg, Nat.reduceAdd, List.range, List.range.loop])
      | (refine y_nw rfl (by rfl) rfl (by exact nx rfl) (fun dd hS K hK => ?_); go_simp; refine hK _ _ _ ?_; clear hK K hS dd; simp only [recOf]; try walk_nrm)
      | (refine y_unwanted rfl (by rfl) ?_; try walk_nrm) | refine y_condT rfl ?_ | refine y_condF rfl ?_
      | refine y_block ?_ | refine y_label ?_ | refine y_ret ?_ | refine y_end ?_)
    refine y_leave rfl rfl Try.func95 (resultsC_none rfl _) ?_
    exact H.out _ _ _ ⟨rfl, rfl, B.out⟩

theorem down_low {l cc : Nat} {k : Int} {T : TypeId} {t : Value} (hl : w.heap[l]? = some (.cells #[.pointer (some ⟨cc, 0, none⟩)] T)) (hk : k < 1) : CallsX J 91 #[.pointer (some ⟨l, 0, none⟩), t, .int .i64 k] σ w fun v σ' w' => v = .int .i64 1 ∧ σ' = σ ∧ w' = w := by
  have cl : w.cell? ⟨l, 0, none⟩ = some (.pointer (some ⟨cc, 0, none⟩)) := by unfold World.cell?; rw [hl]; rfl
  refine callsX_body Try.func91 rfl fun c cs H HN => ?_
  simp only [Try.f91, Try.ntmps91, List.size_toArray, List.length_cons, List.length_nil, Nat.reduceAdd, Nat.reduceSub, Nat.zero_add, Array.replicate_succ, Array.replicate_zero, List.push_toArray, List.append_toArray, List.nil_append, List.cons_append, List.append_nil]
  replace H := Keep.mk H
  replace hl := Keep.mk hl
  repeat (first
    | refine y_go rfl ?_
    | (refine y_region ?_; simp only [rg, Nat.reduceAdd, List.range, List.range.loop])
    | (refine y_nw rfl (by rfl) rfl (by exact nx rfl) (fun dd hS K hK => ?_); go_simp; refine hK _ _ _ ?_; clear hK K hS dd; simp only [recOf]; try walk_nrm)
    | (refine y_unwanted rfl (by rfl) ?_; try walk_nrm) | refine y_condT rfl ?_ | refine y_condF rfl ?_
    | refine y_block ?_ | refine y_label ?_ | refine y_ret ?_ | refine y_end ?_)
  refine y_leave rfl rfl Try.func91 (resultsC_tmp rfl _) ?_
  exact H.out _ _ _ ⟨rfl, rfl, rfl⟩
theorem down_high {S : Nat → Prop} {m : Nat → Int} {l cc : Nat} {k : Int} {T : TypeId} {x : Int} (hh : Holds S σ w m) (hc : S cc) (hl : w.heap[l]? = some (.cells #[.pointer (some ⟨cc, 0, none⟩)] T)) (hS : ¬ S l) (hx : m cc = x) (h1 : 1 ≤ k) (h2 : x < k) :
    CallsX J 91 #[.pointer (some ⟨l, 0, none⟩), .pointer none, .int .i64 k] σ w fun v σ' w' => v = .int .i64 1 ∧ σ' = σ ∧ Same S w w' ∧ Holds S σ w' (setAt m cc x) := by
  refine calls_alone (n := 2) (fun h => down_calls h h1) (fun s a ha => ?_) (one_same hl hS) hh ?_
  · cases s <;> simp [downM] at ha
    · rw [← ha]; exact hc
    · split at ha
      · cases ha
      · simp only [Sum.inl.injEq] at ha
        rw [← ha]; exact hc
  · simp [Mach.run, downM, Acc.now, hx, h2]
/-- Down, of a latch that is alone. -/
theorem down_alone {l cc : Nat} {k n : Int} (hl : w.heap[l]? = some (.cells #[.pointer (some ⟨cc, 0, none⟩)] 169)) (hne : l ≠ cc) (hc : CellIs w cc n) (hf : σ.Free (· = cc)) (hn : 0 ≤ n) (hn2 : n ≤ 9223372036854775807) :
    CallsX J 91 #[.pointer (some ⟨l, 0, none⟩), .pointer none, .int .i64 k] σ w fun v σ' w' => v = .int .i64 (if 1 ≤ k ∧ k ≤ n then 0 else 1) ∧ σ' = σ ∧ Same (· = cc) w w' := by
  have hh : Holds (· = cc) σ w (fun _ => n) := ⟨fun c h => by rw [h]; exact hc, fun c h => by rw [h]; exact hf⟩
  by_cases h1 : 1 ≤ k
  · by_cases h2 : k ≤ n
    · refine (down_free hh rfl hl hne rfl h1 h2 hn2).mono fun v σ' w' ⟨e1, e2, e3, _⟩ => ⟨by rw [if_pos ⟨h1, h2⟩]; exact e1, e2, e3⟩
    · refine (down_high hh rfl hl hne rfl h1 (by omega)).mono fun v σ' w' ⟨e1, e2, e3, _⟩ => ⟨by rw [if_neg (fun h => h2 h.2)]; exact e1, e2, e3⟩
  · refine (down_low hl (by omega)).mono fun v σ' w' ⟨e1, e2, e3⟩ => ⟨by rw [if_neg (fun h => h1 h.1)]; exact e1, e2, by rw [e3]; exact Same.refl _ _⟩
theorem left_alone {l cc : Nat} {n : Int} (hl : w.heap[l]? = some (.cells #[.pointer (some ⟨cc, 0, none⟩)] 169)) (hc : CellIs w cc n) : CallsX J 94 #[.pointer (some ⟨l, 0, none⟩), .pointer none] σ w fun v σ' w' => v = .int .i64 n ∧ σ' = σ ∧ w' = w := by
  have cl : w.cell? ⟨l, 0, none⟩ = some (.pointer (some ⟨cc, 0, none⟩)) := by unfold World.cell?; rw [hl]; rfl
  refine callsX_body Try.func94 rfl fun c cs H HN => ?_
  simp only [Try.f94, Try.ntmps94, List.size_toArray, List.length_cons, List.length_nil, Nat.reduceAdd, Nat.reduceSub, Nat.zero_add, Array.replicate_succ, Array.replicate_zero, List.push_toArray, List.append_toArray, List.nil_append, List.cons_append, List.append_nil]
  replace H := Keep.mk H
  replace hl := Keep.mk hl
  replace hc := Keep.mk hc
  repeat (first
    | refine y_go rfl ?_
    | (refine y_region ?_; simp only [rg, Nat.reduceAdd, List.range, List.range.loop])
    | (refine y_nw rfl (by rfl) rfl (by exact nx rfl) (fun dd hS K hK => ?_); go_simp; refine hK _ _ _ ?_; clear hK K hS dd; simp only [recOf]; try walk_nrm)
    | (refine y_unwanted rfl (by rfl) ?_; try walk_nrm) | refine y_condT rfl ?_ | refine y_condF rfl ?_
    | refine y_block ?_ | refine y_label ?_ | refine y_ret ?_ | refine y_end ?_)
  refine y_callR rfl (by rfl) rfl rfl Try.func41 (by kernel_rfl) (by kernel_rfl) (cell_load hc.out rfl) (by simp only [List.map_toArray, List.map_cons, List.map_nil] <;> rfl) ?_
  rintro _ σ'' w'' ⟨rfl, e2, e3⟩
  rw [e2, e3]
  clear e2 e3 w'' σ''
  walk_nrm
  repeat (first
    | refine y_go rfl ?_
    | (refine y_region ?_; simp only [rg, Nat.reduceAdd, List.range, List.range.loop])
    | (refine y_nw rfl (by rfl) rfl (by exact nx rfl) (fun dd hS K hK => ?_); go_simp; refine hK _ _ _ ?_; clear hK K hS dd; simp only [recOf]; try walk_nrm)
    | (refine y_unwanted rfl (by rfl) ?_; try walk_nrm) | refine y_condT rfl ?_ | refine y_condF rfl ?_
    | refine y_block ?_ | refine y_label ?_ | refine y_ret ?_ | refine y_end ?_)
  refine y_leave rfl rfl Try.func94 (resultsC_tmp rfl _) ?_
  exact H.out _ _ _ ⟨rfl, rfl, rfl⟩
end

section
variable {Fin : Machine → Trace → Prop} {σ : Cfg} {w : World}
theorem latchNew {n k : Int} (hn : -9223372036854775808 ≤ n) (hn2 : n ≤ 9223372036854775807) (hh : σ.h = 0) (hd : σ.dl = 0) (hseat : σ.seat = fun _ => none) (h0 : 0 < σ.n) :
    TopX (tokenJ Try.prog Fin) 16 #[.int .i64 n, .int .i64 k] σ w fun v σ' w' => v = .bool true ∧ σ' = { σ with n := σ.n + 1 } ∧ Bigger w w' := by
  refine topX_body Try.func16 rfl fun cs H => (tokenJ _ _).snd _ _ _ fun hs => ?_
  simp only [Try.f16, Try.ntmps16, List.size_toArray, List.length_cons, List.length_nil, Nat.reduceAdd, Nat.reduceSub, Nat.zero_add, Array.replicate_succ, Array.replicate_zero, List.push_toArray, List.append_toArray, List.nil_append, List.cons_append, List.append_nil]
  replace H := Keep.mk H
  replace hs := Keep.mk hs
  replace hh := Keep.mk hh
  replace hd := Keep.mk hd
  replace hseat := Keep.mk hseat
  replace h0 := Keep.mk h0
  replace hn := Keep.mk hn
  replace hn2 := Keep.mk hn2
  repeat (first
    | refine y_go rfl ?_
    | (refine y_region ?_; simp only [rg, Nat.reduceAdd, List.range, List.range.loop])
    | (refine y_nw rfl (by rfl) rfl (by exact nx rfl) (fun dd hS K hK => ?_); go_simp; refine hK _ _ _ ?_; clear hK K hS dd; simp only [recOf]; try walk_nrm)
    | (refine y_unwanted rfl (by rfl) ?_; try walk_nrm) | refine y_condT rfl ?_ | refine y_condF rfl ?_
    | refine y_block ?_ | refine y_label ?_ | refine y_ret ?_ | refine y_end ?_)
  have N0 := newO w (.cells #[.int .i64 k] 2)
  generalize w.alloc (.cells #[.int .i64 k] 2) = w1 at N0 ⊢
  obtain ⟨kb, hkb⟩ : ∃ b, b = w.heap.size := ⟨_, rfl⟩
  rw [← hkb]
  have hk1 : w1.heap[kb]? = some (.cells #[.int .i64 k] 2) := by rw [hkb]; exact N0.is
  have B1 : Bigger w w1 := ⟨by have := N0.size; omega, N0.old⟩
  replace N0 := Keep.mk N0
  replace hkb := Keep.mk hkb
  replace hk1 := Keep.mk hk1
  replace B1 := Keep.mk B1
  refine y_callR rfl (by rfl) rfl rfl Try.func79 (by kernel_rfl) (by kernel_rfl) (works5) (by simp only [List.map_toArray, List.map_cons, List.map_nil] <;> rfl) ?_
  rintro _ σ'' w2 ⟨rfl, e2, B2⟩
  rw [e2]
  clear e2 σ''
  have hk2 := B2.is hk1.out
  have B02 := B1.out.trans B2
  have hs2 : σ.Sound w2 := fun i s e => by rw [hseat.out] at e; cases e
  clear hk1 B1 B2 N0
  replace hk2 := Keep.mk hk2
  replace B02 := Keep.mk B02
  replace hs2 := Keep.mk hs2
  walk_nrm
  repeat (first
    | refine y_go rfl ?_
    | (refine y_region ?_; simp only [rg, Nat.reduceAdd, List.range, List.range.loop])
    | (refine y_nw rfl (by rfl) rfl (by exact nx rfl) (fun dd hS K hK => ?_); go_simp; refine hK _ _ _ ?_; clear hK K hS dd; simp only [recOf]; try walk_nrm)
    | (refine y_unwanted rfl (by rfl) ?_; try walk_nrm) | refine y_condT rfl ?_ | refine y_condF rfl ?_
    | refine y_block ?_ | refine y_label ?_ | refine y_ret ?_ | refine y_end ?_)
  by_cases hneg : n < 0
  · have e1 : ¬ 0 ≤ n := by omega
    have e3 : n < 1 := by omega
    have e4 : ¬ 1 ≤ n := by omega
    refine y_callR rfl (by rfl) rfl rfl Try.func89 (by kernel_rfl) (by kernel_rfl) (latch_new_bad hneg) (by simp only [List.map_toArray, List.map_cons, List.map_nil] <;> rfl) ?_
    rintro _ σ'' w'' ⟨rfl, e2, e3⟩
    rw [e2, e3]
    clear e2 e3 w'' σ''
    walk_nrm
    repeat (first
      | refine y_go rfl ?_
      | (refine y_region ?_; simp only [rg, Nat.reduceAdd, List.range, List.range.loop])
      | (refine y_nw rfl (by rfl) rfl (by exact nx rfl) (fun dd hS K hK => ?_); go_simp; refine hK _ _ _ ?_; clear hK K hS dd; simp only [recOf]; try walk_nrm)
      | (refine y_unwanted rfl (by rfl) ?_; try walk_nrm) | refine y_condT rfl ?_ | refine y_condF rfl ?_
      | refine y_block ?_ | refine y_label ?_ | refine y_ret ?_ | refine y_end ?_)
    refine y_callR rfl (by rfl) rfl rfl Try.func86 (by kernel_rfl) (by kernel_rfl) (barrier_new_bad e3) (by simp only [List.map_toArray, List.map_cons, List.map_nil] <;> rfl) ?_
    rintro _ σ'' w'' ⟨rfl, e2, e3⟩
    rw [e2, e3]
    clear e2 e3 w'' σ''
    walk_nrm
    repeat (first
      | refine y_go rfl ?_
      | (refine y_region ?_; simp only [rg, Nat.reduceAdd, List.range, List.range.loop])
      | (refine y_nw rfl (by rfl) rfl (by exact nx rfl) (fun dd hS K hK => ?_); go_simp; refine hK _ _ _ ?_; clear hK K hS dd; simp only [recOf]; try walk_nrm)
      | (refine y_unwanted rfl (by rfl) ?_; try walk_nrm) | refine y_condT rfl ?_ | refine y_condF rfl ?_
      | refine y_block ?_ | refine y_label ?_ | refine y_ret ?_ | refine y_end ?_)
    have BZ : Bigger w2 w2 := Bigger.refl w2
    have hkz := BZ.is hk2.out
    replace BZ := Keep.mk BZ
    replace hkz := Keep.mk hkz
    repeat (first
      | refine y_go rfl ?_
      | (refine y_region ?_; simp only [rg, Nat.reduceAdd, List.range, List.range.loop])
      | (refine y_nw rfl (by rfl) rfl (by exact nx rfl) (fun dd hS K hK => ?_); go_simp; refine hK _ _ _ ?_; clear hK K hS dd; simp only [recOf]; try walk_nrm)
      | (refine y_unwanted rfl (by rfl) ?_; try walk_nrm) | refine y_condT rfl ?_ | refine y_condF rfl ?_
      | refine y_block ?_ | refine y_label ?_ | refine y_ret ?_ | refine y_end ?_)
    have NG := newO w2 (.cells #[.bool false] 4)
    generalize w2.alloc (.cells #[.bool false] 4) = u1 at NG ⊢
    obtain ⟨g, hgb⟩ : ∃ b, b = w2.heap.size := ⟨_, rfl⟩
    rw [← hgb]
    have hg1 := NG.is
    rw [← hgb] at hg1
    refine y_storeC (vs := #[.bool true]) rfl (by rfl) rfl rfl rfl rfl rfl hg1 (by first | kernel_rfl | rfl) (Nat.le_of_ble_eq_true rfl) (by simp [Value.oneCell']) (Cfg.Free.cells (free_noseat hseat.out)) (fun u2 SG => ?_)
    try walk_nrm
    have hg2 : u2.heap[g]? = some (.cells #[.bool true] 4) := SG.is
    have zg := NG.size
    have BG : Bigger w2 u2 := ⟨by rw [SG.size]; omega, fun b hb => (SG.other b (by omega)).trans (NG.old b hb)⟩
    have hkg := BG.is hkz.out
    replace NG := Keep.mk NG
    replace hgb := Keep.mk hgb
    replace hg1 := Keep.mk hg1
    replace SG := Keep.mk SG
    replace hg2 := Keep.mk hg2
    replace BG := Keep.mk BG
    replace hkg := Keep.mk hkg
    repeat (first
      | refine y_go rfl ?_
      | (refine y_region ?_; simp only [rg, Nat.reduceAdd, List.range, List.range.loop])
      | (refine y_nw rfl (by rfl) rfl (by exact nx rfl) (fun dd hS K hK => ?_); go_simp; refine hK _ _ _ ?_; clear hK K hS dd; simp only [recOf]; try walk_nrm)
      | (refine y_unwanted rfl (by rfl) ?_; try walk_nrm) | refine y_condT rfl ?_ | refine y_condF rfl ?_
      | refine y_block ?_ | refine y_label ?_ | refine y_ret ?_ | refine y_end ?_)
    have NF := newO u2 (.cells #[.func (.func 95) #[] #[.pointer (some ⟨g, 0, none⟩), .pointer (some ⟨kb, 0, none⟩)]] 40)
    generalize u2.alloc (.cells #[.func (.func 95) #[] #[.pointer (some ⟨g, 0, none⟩), .pointer (some ⟨kb, 0, none⟩)]] 40) = u3 at NF ⊢
    obtain ⟨fb, hfb⟩ : ∃ b, b = u2.heap.size := ⟨_, rfl⟩
    rw [← hfb]
    have hf3 := NF.is
    rw [← hfb] at hf3
    have hg3 := (NF.old g (lt_of_get hg2.out)).trans hg2.out
    have hk3 := (NF.old kb (lt_of_get hkg.out)).trans hkg.out
    have zf := NF.size
    have B3 : Bigger u2 u3 := ⟨by omega, NF.old⟩
    have hrun := quiet_run (Fin := Fin) (facts := fun b => if b < u3.heap.size then u3.heap[b]? else none) (most := 9) (bs := [⟨95, #[], #[.pointer (some ⟨g, 0, none⟩), .pointer (some ⟨kb, 0, none⟩)]⟩]) (bbo := some ⟨fb, 0, none⟩) (bcp := 1) (σ := σ) (w := u3) (by decide) hh.out hd.out hseat.out h0.out
      (fun b o hb => by split at hb; exact hb; cases hb) (by simp)
      (fun w' hw' x hx => by
        have hx0 : x = 0 := by simp at hx; omega
        subst hx0
        refine ⟨_, rfl, ?_⟩
        have h := hw' fb _ ((if_pos (lt_of_get hf3)).trans hf3)
        show w'.cell? ⟨fb, 0, none⟩ = _
        unfold World.cell?
        rw [h]
        rfl)
      (fun x hx => by
        have hx0 : x = 0 := by simp at hx; omega
        subst hx0
        refine ⟨⟨_, Try.func95, by kernel_rfl, by kernel_rfl⟩, quiet_body fun t σ' w' hw' => ?_⟩
        exact none5 (hw' g _ ((if_pos (lt_of_get hg3)).trans hg3)).1 (hw' kb _ ((if_pos (lt_of_get hk3)).trans hk3)).1 (hw' g _ ((if_pos (lt_of_get hg3)).trans hg3)).2)
    replace NF := Keep.mk NF
    replace hfb := Keep.mk hfb
    replace hf3 := Keep.mk hf3
    replace hg3 := Keep.mk hg3
    replace hk3 := Keep.mk hk3
    replace zf := Keep.mk zf
    replace B3 := Keep.mk B3
    refine y_callR rfl (by rfl) rfl rfl Try.func30 (by kernel_rfl) (by kernel_rfl) (hrun) (by simp only [List.map_toArray, List.map_cons, List.map_nil] <;> rfl) ?_
    rintro _ σ'' u4 ⟨e2, ⟨o1, n1, c1, o2, n2, c2, o3, n3, c3, o4, n4, c4, rfl⟩, hfa, hsz⟩
    rw [e2]
    clear e2 σ'' hrun
    have B4 : Bigger u3 u4 := ⟨hsz, fun b hb => by
      have h := hfa b (u3.heap[b]) (by rw [if_pos hb]; exact Array.getElem?_eq_getElem hb)
      rw [h]; exact (Array.getElem?_eq_getElem hb).symm⟩
    have hg4 : u4.cell? ⟨g, 0, none⟩ = some (.bool true) := by unfold World.cell?; rw [B4.is hg3.out]; rfl
    clear hfa hsz
    replace B4 := Keep.mk B4
    walk_nrm
    repeat (first
      | refine y_go rfl ?_
      | (refine y_region ?_; simp only [rg, Nat.reduceAdd, List.range, List.range.loop])
      | (refine y_nw rfl (by rfl) rfl (by exact nx rfl) (fun dd hS K hK => ?_); go_simp; refine hK _ _ _ ?_; clear hK K hS dd; simp only [recOf]; try walk_nrm)
      | (refine y_unwanted rfl (by rfl) ?_; try walk_nrm) | refine y_condT rfl ?_ | refine y_condF rfl ?_
      | refine y_block ?_ | refine y_label ?_ | refine y_ret ?_ | refine y_end ?_)
    have NR := newO u4 (.cells #[.int .i8 0, .int .i64 0, .slice none 0 0, .slice none 0 0, .slice none 0 0, .slice none 0 0, .slice none 0 0] 43)
    generalize u4.alloc (.cells #[.int .i8 0, .int .i64 0, .slice none 0 0, .slice none 0 0, .slice none 0 0, .slice none 0 0, .slice none 0 0] 43) = u5 at NR ⊢
    obtain ⟨rb, hrb⟩ : ∃ b, b = u4.heap.size := ⟨_, rfl⟩
    rw [← hrb]
    have hr5 := NR.is
    rw [← hrb] at hr5
    refine y_storeC (vs := #[.int .i8 1, .int .i64 0, .slice o1 n1 c1, .slice o2 n2 c2, .slice o3 n3 c3, .slice o4 n4 c4, .slice none 0 0]) rfl (by rfl) rfl rfl rfl rfl rfl hr5 (by first | kernel_rfl | rfl) (Nat.le_of_ble_eq_true rfl) (by simp [Value.oneCell']) (Cfg.Free.cells (free_noseat hseat.out)) (fun u6 SR => ?_)
    try walk_nrm
    have hr6 : u6.heap[rb]? = some (.cells #[.int .i8 1, .int .i64 0, .slice o1 n1 c1, .slice o2 n2 c2, .slice o3 n3 c3, .slice o4 n4 c4, .slice none 0 0] 43) := SR.is
    have r0 : u6.cell? ⟨rb, 0, none⟩ = some (.int .i8 1) := by unfold World.cell?; rw [hr6]; rfl
    have r1 : u6.cell? ⟨rb, 1, none⟩ = some (.int .i64 0) := by unfold World.cell?; rw [hr6]; rfl
    have zr := NR.size
    have B6 : Bigger u4 u6 := ⟨by rw [SR.size]; omega, fun b hb => (SR.other b (by omega)).trans (NR.old b hb)⟩
    have g6 := (cell?_of_block (B6.old _ (lt_of_cell hg4))).trans hg4
    clear hg4
    replace B6 := Keep.mk B6
    replace SR := Keep.mk SR
    replace hr6 := Keep.mk hr6
    replace hr5 := Keep.mk hr5
    replace NR := Keep.mk NR
    replace hrb := Keep.mk hrb
    repeat (first
      | refine y_go rfl ?_
      | (refine y_region ?_; simp only [rg, Nat.reduceAdd, List.range, List.range.loop])
      | (refine y_nw rfl (by rfl) rfl (by exact nx rfl) (fun dd hS K hK => ?_); go_simp; refine hK _ _ _ ?_; clear hK K hS dd; simp only [recOf]; try walk_nrm)
      | (refine y_unwanted rfl (by rfl) ?_; try walk_nrm) | refine y_condT rfl ?_ | refine y_condF rfl ?_
      | refine y_block ?_ | refine y_label ?_ | refine y_ret ?_ | refine y_end ?_)
    refine H _ _ _ _ (leaves_at rfl rfl Try.func16 (resultsC_tmp rfl _)) ?_
    exact ⟨rfl, rfl, B02.out.trans (BZ.out.trans (BG.out.trans (B3.out.trans (B4.out.trans B6.out))))⟩
  · have e1 : 0 ≤ n := by omega
    refine y_callR rfl (by rfl) rfl rfl Try.func89 (by kernel_rfl) (by kernel_rfl) (latch_new e1) (by simp only [List.map_toArray, List.map_cons, List.map_nil] <;> rfl) ?_
    rintro _ σ'' w3 ⟨rfl, e2, M3⟩
    rw [e2]
    clear e2 σ''
    obtain ⟨cc, hcc⟩ : ∃ b, b = w2.heap.size := ⟨_, rfl⟩
    obtain ⟨l, hl⟩ : ∃ b, b = w2.heap.size + 1 := ⟨_, rfl⟩
    rw [← hl]
    have il : w3.heap[l]? = some (.cells #[.pointer (some ⟨cc, 0, none⟩)] 169) := by rw [hl, hcc]; exact M3.str
    have ic : CellIs w3 cc n := by rw [hcc]; exact M3.cell
    have hne : l ≠ cc := by omega
    have hlc : w2.heap.size ≤ cc := by omega
    have B23 : Bigger w2 w3 := ⟨by have := M3.size; omega, M3.old⟩
    clear M3 hcc hl
    replace il := Keep.mk il
    replace ic := Keep.mk ic
    replace hne := Keep.mk hne
    replace hlc := Keep.mk hlc
    replace B23 := Keep.mk B23
    walk_nrm
    repeat (first
      | refine y_go rfl ?_
      | (refine y_region ?_; simp only [rg, Nat.reduceAdd, List.range, List.range.loop])
      | (refine y_nw rfl (by rfl) rfl (by exact nx rfl) (fun dd hS K hK => ?_); go_simp; refine hK _ _ _ ?_; clear hK K hS dd; simp only [recOf]; try walk_nrm)
      | (refine y_unwanted rfl (by rfl) ?_; try walk_nrm) | refine y_condT rfl ?_ | refine y_condF rfl ?_
      | refine y_block ?_ | refine y_label ?_ | refine y_ret ?_ | refine y_end ?_)
    by_cases hz : n < 1
    · have e5 : ¬ 1 ≤ n := by omega
      refine y_callR rfl (by rfl) rfl rfl Try.func86 (by kernel_rfl) (by kernel_rfl) (barrier_new_bad hz) (by simp only [List.map_toArray, List.map_cons, List.map_nil] <;> rfl) ?_
      rintro _ σ'' w'' ⟨rfl, e2, e3⟩
      rw [e2, e3]
      clear e2 e3 w'' σ''
      walk_nrm
      repeat (first
        | refine y_go rfl ?_
        | (refine y_region ?_; simp only [rg, Nat.reduceAdd, List.range, List.range.loop])
        | (refine y_nw rfl (by rfl) rfl (by exact nx rfl) (fun dd hS K hK => ?_); go_simp; refine hK _ _ _ ?_; clear hK K hS dd; simp only [recOf]; try walk_nrm)
        | (refine y_unwanted rfl (by rfl) ?_; try walk_nrm) | refine y_condT rfl ?_ | refine y_condF rfl ?_
        | refine y_block ?_ | refine y_label ?_ | refine y_ret ?_ | refine y_end ?_)
      have BN : Bigger w3 w3 := Bigger.refl w3
      have il' := BN.is il.out
      have ic' : CellIs w3 cc n := ic.out.later (BN.old _ ic.out.lt)
      have BW : Bigger w2 w3 := B23.out.trans BN
      replace il' := Keep.mk il'
      replace ic' := Keep.mk ic'
      replace BW := Keep.mk BW
      replace BN := Keep.mk BN
      try walk_nrm
      repeat (first
        | refine y_go rfl ?_
        | (refine y_region ?_; simp only [rg, Nat.reduceAdd, List.range, List.range.loop])
        | (refine y_nw rfl (by rfl) rfl (by exact nx rfl) (fun dd hS K hK => ?_); go_simp; refine hK _ _ _ ?_; clear hK K hS dd; simp only [recOf]; try walk_nrm)
        | (refine y_unwanted rfl (by rfl) ?_; try walk_nrm) | refine y_condT rfl ?_ | refine y_condF rfl ?_
        | refine y_block ?_ | refine y_label ?_ | refine y_ret ?_ | refine y_end ?_)
      refine y_callR rfl (by rfl) rfl rfl Try.func94 (by kernel_rfl) (by kernel_rfl) (left_alone il'.out ic'.out) (by simp only [List.map_toArray, List.map_cons, List.map_nil] <;> rfl) ?_
      rintro _ σ'' w'' ⟨rfl, e2, e3⟩
      rw [e2, e3]
      clear e2 e3 w'' σ''
      walk_nrm
      repeat (first
        | refine y_go rfl ?_
        | (refine y_region ?_; simp only [rg, Nat.reduceAdd, List.range, List.range.loop])
        | (refine y_nw rfl (by rfl) rfl (by exact nx rfl) (fun dd hS K hK => ?_); go_simp; refine hK _ _ _ ?_; clear hK K hS dd; simp only [recOf]; try walk_nrm)
        | (refine y_unwanted rfl (by rfl) ?_; try walk_nrm) | refine y_condT rfl ?_ | refine y_condF rfl ?_
        | refine y_block ?_ | refine y_label ?_ | refine y_ret ?_ | refine y_end ?_)
      have hkn := BW.out.is hk2.out
      have ckn : w3.cell? ⟨kb, 0, none⟩ = some (.int .i64 k) := by unfold World.cell?; rw [hkn]; rfl
      clear hkn
      have hdn := down_alone (J := tokenJ Try.prog Fin) (k := k) il'.out hne.out ic'.out (free_noseat hseat.out) e1 hn2.out
      by_cases k1 : 1 ≤ k
      · by_cases k2 : k ≤ n
        · rw [if_pos ⟨k1, k2⟩] at hdn
          replace hdn := Keep.mk hdn
          repeat (first
            | refine y_go rfl ?_
            | (refine y_region ?_; simp only [rg, Nat.reduceAdd, List.range, List.range.loop])
            | (refine y_nw rfl (by rfl) rfl (by exact nx rfl) (fun dd hS K hK => ?_); go_simp; refine hK _ _ _ ?_; clear hK K hS dd; simp only [recOf]; try walk_nrm)
            | (refine y_unwanted rfl (by rfl) ?_; try walk_nrm) | refine y_condT rfl ?_ | refine y_condF rfl ?_
            | refine y_block ?_ | refine y_label ?_ | refine y_ret ?_ | refine y_end ?_)
          refine y_callR rfl (by rfl) rfl rfl Try.func91 (by kernel_rfl) (by kernel_rfl) (hdn.out) (by simp only [List.map_toArray, List.map_cons, List.map_nil] <;> rfl) ?_
          rintro _ σ'' v5 ⟨rfl, e2, x5⟩
          rw [e2]
          clear e2 σ''
          have BZ : Bigger w2 v5 := ⟨by rw [x5.size]; exact BW.out.size, fun b hb => (x5.old b (by have := hlc.out; intro h; have h' : b = cc := h; omega)).trans (BW.out.old b hb)⟩
          clear x5 hdn ckn k1 k2
          walk_nrm
          have hkz := BZ.is hk2.out
          replace BZ := Keep.mk BZ
          replace hkz := Keep.mk hkz
          repeat (first
            | refine y_go rfl ?_
            | (refine y_region ?_; simp only [rg, Nat.reduceAdd, List.range, List.range.loop])
            | (refine y_nw rfl (by rfl) rfl (by exact nx rfl) (fun dd hS K hK => ?_); go_simp; refine hK _ _ _ ?_; clear hK K hS dd; simp only [recOf]; try walk_nrm)
            | (refine y_unwanted rfl (by rfl) ?_; try walk_nrm) | refine y_condT rfl ?_ | refine y_condF rfl ?_
            | refine y_block ?_ | refine y_label ?_ | refine y_ret ?_ | refine y_end ?_)
          have NG := newO v5 (.cells #[.bool false] 4)
          generalize v5.alloc (.cells #[.bool false] 4) = u1 at NG ⊢
          obtain ⟨g, hgb⟩ : ∃ b, b = v5.heap.size := ⟨_, rfl⟩
          rw [← hgb]
          have hg1 := NG.is
          rw [← hgb] at hg1
          refine y_storeC (vs := #[.bool true]) rfl (by rfl) rfl rfl rfl rfl rfl hg1 (by first | kernel_rfl | rfl) (Nat.le_of_ble_eq_true rfl) (by simp [Value.oneCell']) (Cfg.Free.cells (free_noseat hseat.out)) (fun u2 SG => ?_)
          try walk_nrm
          have hg2 : u2.heap[g]? = some (.cells #[.bool true] 4) := SG.is
          have zg := NG.size
          have BG : Bigger v5 u2 := ⟨by rw [SG.size]; omega, fun b hb => (SG.other b (by omega)).trans (NG.old b hb)⟩
          have hkg := BG.is hkz.out
          replace NG := Keep.mk NG
          replace hgb := Keep.mk hgb
          replace hg1 := Keep.mk hg1
          replace SG := Keep.mk SG
          replace hg2 := Keep.mk hg2
          replace BG := Keep.mk BG
          replace hkg := Keep.mk hkg
          repeat (first
            | refine y_go rfl ?_
            | (refine y_region ?_; simp only [rg, Nat.reduceAdd, List.range, List.range.loop])
            | (refine y_nw rfl (by rfl) rfl (by exact nx rfl) (fun dd hS K hK => ?_); go_simp; refine hK _ _ _ ?_; clear hK K hS dd; simp only [recOf]; try walk_nrm)
            | (refine y_unwanted rfl (by rfl) ?_; try walk_nrm) | refine y_condT rfl ?_ | refine y_condF rfl ?_
            | refine y_block ?_ | refine y_label ?_ | refine y_ret ?_ | refine y_end ?_)
          have NF := newO u2 (.cells #[.func (.func 95) #[] #[.pointer (some ⟨g, 0, none⟩), .pointer (some ⟨kb, 0, none⟩)]] 40)
          generalize u2.alloc (.cells #[.func (.func 95) #[] #[.pointer (some ⟨g, 0, none⟩), .pointer (some ⟨kb, 0, none⟩)]] 40) = u3 at NF ⊢
          obtain ⟨fb, hfb⟩ : ∃ b, b = u2.heap.size := ⟨_, rfl⟩
          rw [← hfb]
          have hf3 := NF.is
          rw [← hfb] at hf3
          have hg3 := (NF.old g (lt_of_get hg2.out)).trans hg2.out
          have hk3 := (NF.old kb (lt_of_get hkg.out)).trans hkg.out
          have zf := NF.size
          have B3 : Bigger u2 u3 := ⟨by omega, NF.old⟩
          have hrun := quiet_run (Fin := Fin) (facts := fun b => if b < u3.heap.size then u3.heap[b]? else none) (most := 9) (bs := [⟨95, #[], #[.pointer (some ⟨g, 0, none⟩), .pointer (some ⟨kb, 0, none⟩)]⟩]) (bbo := some ⟨fb, 0, none⟩) (bcp := 1) (σ := σ) (w := u3) (by decide) hh.out hd.out hseat.out h0.out
            (fun b o hb => by split at hb; exact hb; cases hb) (by simp)
            (fun w' hw' x hx => by
              have hx0 : x = 0 := by simp at hx; omega
              subst hx0
              refine ⟨_, rfl, ?_⟩
              have h := hw' fb _ ((if_pos (lt_of_get hf3)).trans hf3)
              show w'.cell? ⟨fb, 0, none⟩ = _
              unfold World.cell?
              rw [h]
              rfl)
            (fun x hx => by
              have hx0 : x = 0 := by simp at hx; omega
              subst hx0
              refine ⟨⟨_, Try.func95, by kernel_rfl, by kernel_rfl⟩, quiet_body fun t σ' w' hw' => ?_⟩
              exact none5 (hw' g _ ((if_pos (lt_of_get hg3)).trans hg3)).1 (hw' kb _ ((if_pos (lt_of_get hk3)).trans hk3)).1 (hw' g _ ((if_pos (lt_of_get hg3)).trans hg3)).2)
          replace NF := Keep.mk NF
          replace hfb := Keep.mk hfb
          replace hf3 := Keep.mk hf3
          replace hg3 := Keep.mk hg3
          replace hk3 := Keep.mk hk3
          replace zf := Keep.mk zf
          replace B3 := Keep.mk B3
          refine y_callR rfl (by rfl) rfl rfl Try.func30 (by kernel_rfl) (by kernel_rfl) (hrun) (by simp only [List.map_toArray, List.map_cons, List.map_nil] <;> rfl) ?_
          rintro _ σ'' u4 ⟨e2, ⟨o1, n1, c1, o2, n2, c2, o3, n3, c3, o4, n4, c4, rfl⟩, hfa, hsz⟩
          rw [e2]
          clear e2 σ'' hrun
          have B4 : Bigger u3 u4 := ⟨hsz, fun b hb => by
            have h := hfa b (u3.heap[b]) (by rw [if_pos hb]; exact Array.getElem?_eq_getElem hb)
            rw [h]; exact (Array.getElem?_eq_getElem hb).symm⟩
          have hg4 : u4.cell? ⟨g, 0, none⟩ = some (.bool true) := by unfold World.cell?; rw [B4.is hg3.out]; rfl
          clear hfa hsz
          replace B4 := Keep.mk B4
          walk_nrm
          repeat (first
            | refine y_go rfl ?_
            | (refine y_region ?_; simp only [rg, Nat.reduceAdd, List.range, List.range.loop])
            | (refine y_nw rfl (by rfl) rfl (by exact nx rfl) (fun dd hS K hK => ?_); go_simp; refine hK _ _ _ ?_; clear hK K hS dd; simp only [recOf]; try walk_nrm)
            | (refine y_unwanted rfl (by rfl) ?_; try walk_nrm) | refine y_condT rfl ?_ | refine y_condF rfl ?_
            | refine y_block ?_ | refine y_label ?_ | refine y_ret ?_ | refine y_end ?_)
          have NR := newO u4 (.cells #[.int .i8 0, .int .i64 0, .slice none 0 0, .slice none 0 0, .slice none 0 0, .slice none 0 0, .slice none 0 0] 43)
          generalize u4.alloc (.cells #[.int .i8 0, .int .i64 0, .slice none 0 0, .slice none 0 0, .slice none 0 0, .slice none 0 0, .slice none 0 0] 43) = u5 at NR ⊢
          obtain ⟨rb, hrb⟩ : ∃ b, b = u4.heap.size := ⟨_, rfl⟩
          rw [← hrb]
          have hr5 := NR.is
          rw [← hrb] at hr5
          refine y_storeC (vs := #[.int .i8 1, .int .i64 0, .slice o1 n1 c1, .slice o2 n2 c2, .slice o3 n3 c3, .slice o4 n4 c4, .slice none 0 0]) rfl (by rfl) rfl rfl rfl rfl rfl hr5 (by first | kernel_rfl | rfl) (Nat.le_of_ble_eq_true rfl) (by simp [Value.oneCell']) (Cfg.Free.cells (free_noseat hseat.out)) (fun u6 SR => ?_)
          try walk_nrm
          have hr6 : u6.heap[rb]? = some (.cells #[.int .i8 1, .int .i64 0, .slice o1 n1 c1, .slice o2 n2 c2, .slice o3 n3 c3, .slice o4 n4 c4, .slice none 0 0] 43) := SR.is
          have r0 : u6.cell? ⟨rb, 0, none⟩ = some (.int .i8 1) := by unfold World.cell?; rw [hr6]; rfl
          have r1 : u6.cell? ⟨rb, 1, none⟩ = some (.int .i64 0) := by unfold World.cell?; rw [hr6]; rfl
          have zr := NR.size
          have B6 : Bigger u4 u6 := ⟨by rw [SR.size]; omega, fun b hb => (SR.other b (by omega)).trans (NR.old b hb)⟩
          have g6 := (cell?_of_block (B6.old _ (lt_of_cell hg4))).trans hg4
          clear hg4
          replace B6 := Keep.mk B6
          replace SR := Keep.mk SR
          replace hr6 := Keep.mk hr6
          replace hr5 := Keep.mk hr5
          replace NR := Keep.mk NR
          replace hrb := Keep.mk hrb
          repeat (first
            | refine y_go rfl ?_
            | (refine y_region ?_; simp only [rg, Nat.reduceAdd, List.range, List.range.loop])
            | (refine y_nw rfl (by rfl) rfl (by exact nx rfl) (fun dd hS K hK => ?_); go_simp; refine hK _ _ _ ?_; clear hK K hS dd; simp only [recOf]; try walk_nrm)
            | (refine y_unwanted rfl (by rfl) ?_; try walk_nrm) | refine y_condT rfl ?_ | refine y_condF rfl ?_
            | refine y_block ?_ | refine y_label ?_ | refine y_ret ?_ | refine y_end ?_)
          refine H _ _ _ _ (leaves_at rfl rfl Try.func16 (resultsC_tmp rfl _)) ?_
          exact ⟨rfl, rfl, B02.out.trans (BZ.out.trans (BG.out.trans (B3.out.trans (B4.out.trans B6.out))))⟩
        · rw [if_neg (fun h => k2 h.2)] at hdn
          replace hdn := Keep.mk hdn
          repeat (first
            | refine y_go rfl ?_
            | (refine y_region ?_; simp only [rg, Nat.reduceAdd, List.range, List.range.loop])
            | (refine y_nw rfl (by rfl) rfl (by exact nx rfl) (fun dd hS K hK => ?_); go_simp; refine hK _ _ _ ?_; clear hK K hS dd; simp only [recOf]; try walk_nrm)
            | (refine y_unwanted rfl (by rfl) ?_; try walk_nrm) | refine y_condT rfl ?_ | refine y_condF rfl ?_
            | refine y_block ?_ | refine y_label ?_ | refine y_ret ?_ | refine y_end ?_)
          refine y_callR rfl (by rfl) rfl rfl Try.func91 (by kernel_rfl) (by kernel_rfl) (hdn.out) (by simp only [List.map_toArray, List.map_cons, List.map_nil] <;> rfl) ?_
          rintro _ σ'' v5 ⟨rfl, e2, x5⟩
          rw [e2]
          clear e2 σ''
          have BZ : Bigger w2 v5 := ⟨by rw [x5.size]; exact BW.out.size, fun b hb => (x5.old b (by have := hlc.out; intro h; have h' : b = cc := h; omega)).trans (BW.out.old b hb)⟩
          clear x5 hdn ckn k1 k2
          walk_nrm
          have hkz := BZ.is hk2.out
          replace BZ := Keep.mk BZ
          replace hkz := Keep.mk hkz
          repeat (first
            | refine y_go rfl ?_
            | (refine y_region ?_; simp only [rg, Nat.reduceAdd, List.range, List.range.loop])
            | (refine y_nw rfl (by rfl) rfl (by exact nx rfl) (fun dd hS K hK => ?_); go_simp; refine hK _ _ _ ?_; clear hK K hS dd; simp only [recOf]; try walk_nrm)
            | (refine y_unwanted rfl (by rfl) ?_; try walk_nrm) | refine y_condT rfl ?_ | refine y_condF rfl ?_
            | refine y_block ?_ | refine y_label ?_ | refine y_ret ?_ | refine y_end ?_)
          have NG := newO v5 (.cells #[.bool false] 4)
          generalize v5.alloc (.cells #[.bool false] 4) = u1 at NG ⊢
          obtain ⟨g, hgb⟩ : ∃ b, b = v5.heap.size := ⟨_, rfl⟩
          rw [← hgb]
          have hg1 := NG.is
          rw [← hgb] at hg1
          refine y_storeC (vs := #[.bool true]) rfl (by rfl) rfl rfl rfl rfl rfl hg1 (by first | kernel_rfl | rfl) (Nat.le_of_ble_eq_true rfl) (by simp [Value.oneCell']) (Cfg.Free.cells (free_noseat hseat.out)) (fun u2 SG => ?_)
          try walk_nrm
          have hg2 : u2.heap[g]? = some (.cells #[.bool true] 4) := SG.is
          have zg := NG.size
          have BG : Bigger v5 u2 := ⟨by rw [SG.size]; omega, fun b hb => (SG.other b (by omega)).trans (NG.old b hb)⟩
          have hkg := BG.is hkz.out
          replace NG := Keep.mk NG
          replace hgb := Keep.mk hgb
          replace hg1 := Keep.mk hg1
          replace SG := Keep.mk SG
          replace hg2 := Keep.mk hg2
          replace BG := Keep.mk BG
          replace hkg := Keep.mk hkg
          repeat (first
            | refine y_go rfl ?_
            | (refine y_region ?_; simp only [rg, Nat.reduceAdd, List.range, List.range.loop])
            | (refine y_nw rfl (by rfl) rfl (by exact nx rfl) (fun dd hS K hK => ?_); go_simp; refine hK _ _ _ ?_; clear hK K hS dd; simp only [recOf]; try walk_nrm)
            | (refine y_unwanted rfl (by rfl) ?_; try walk_nrm) | refine y_condT rfl ?_ | refine y_condF rfl ?_
            | refine y_block ?_ | refine y_label ?_ | refine y_ret ?_ | refine y_end ?_)
          have NF := newO u2 (.cells #[.func (.func 95) #[] #[.pointer (some ⟨g, 0, none⟩), .pointer (some ⟨kb, 0, none⟩)]] 40)
          generalize u2.alloc (.cells #[.func (.func 95) #[] #[.pointer (some ⟨g, 0, none⟩), .pointer (some ⟨kb, 0, none⟩)]] 40) = u3 at NF ⊢
          obtain ⟨fb, hfb⟩ : ∃ b, b = u2.heap.size := ⟨_, rfl⟩
          rw [← hfb]
          have hf3 := NF.is
          rw [← hfb] at hf3
          have hg3 := (NF.old g (lt_of_get hg2.out)).trans hg2.out
          have hk3 := (NF.old kb (lt_of_get hkg.out)).trans hkg.out
          have zf := NF.size
          have B3 : Bigger u2 u3 := ⟨by omega, NF.old⟩
          have hrun := quiet_run (Fin := Fin) (facts := fun b => if b < u3.heap.size then u3.heap[b]? else none) (most := 9) (bs := [⟨95, #[], #[.pointer (some ⟨g, 0, none⟩), .pointer (some ⟨kb, 0, none⟩)]⟩]) (bbo := some ⟨fb, 0, none⟩) (bcp := 1) (σ := σ) (w := u3) (by decide) hh.out hd.out hseat.out h0.out
            (fun b o hb => by split at hb; exact hb; cases hb) (by simp)
            (fun w' hw' x hx => by
              have hx0 : x = 0 := by simp at hx; omega
              subst hx0
              refine ⟨_, rfl, ?_⟩
              have h := hw' fb _ ((if_pos (lt_of_get hf3)).trans hf3)
              show w'.cell? ⟨fb, 0, none⟩ = _
              unfold World.cell?
              rw [h]
              rfl)
            (fun x hx => by
              have hx0 : x = 0 := by simp at hx; omega
              subst hx0
              refine ⟨⟨_, Try.func95, by kernel_rfl, by kernel_rfl⟩, quiet_body fun t σ' w' hw' => ?_⟩
              exact none5 (hw' g _ ((if_pos (lt_of_get hg3)).trans hg3)).1 (hw' kb _ ((if_pos (lt_of_get hk3)).trans hk3)).1 (hw' g _ ((if_pos (lt_of_get hg3)).trans hg3)).2)
          replace NF := Keep.mk NF
          replace hfb := Keep.mk hfb
          replace hf3 := Keep.mk hf3
          replace hg3 := Keep.mk hg3
          replace hk3 := Keep.mk hk3
          replace zf := Keep.mk zf
          replace B3 := Keep.mk B3
          refine y_callR rfl (by rfl) rfl rfl Try.func30 (by kernel_rfl) (by kernel_rfl) (hrun) (by simp only [List.map_toArray, List.map_cons, List.map_nil] <;> rfl) ?_
          rintro _ σ'' u4 ⟨e2, ⟨o1, n1, c1, o2, n2, c2, o3, n3, c3, o4, n4, c4, rfl⟩, hfa, hsz⟩
          rw [e2]
          clear e2 σ'' hrun
          have B4 : Bigger u3 u4 := ⟨hsz, fun b hb => by
            have h := hfa b (u3.heap[b]) (by rw [if_pos hb]; exact Array.getElem?_eq_getElem hb)
            rw [h]; exact (Array.getElem?_eq_getElem hb).symm⟩
          have hg4 : u4.cell? ⟨g, 0, none⟩ = some (.bool true) := by unfold World.cell?; rw [B4.is hg3.out]; rfl
          clear hfa hsz
          replace B4 := Keep.mk B4
          walk_nrm
          repeat (first
            | refine y_go rfl ?_
            | (refine y_region ?_; simp only [rg, Nat.reduceAdd, List.range, List.range.loop])
            | (refine y_nw rfl (by rfl) rfl (by exact nx rfl) (fun dd hS K hK => ?_); go_simp; refine hK _ _ _ ?_; clear hK K hS dd; simp only [recOf]; try walk_nrm)
            | (refine y_unwanted rfl (by rfl) ?_; try walk_nrm) | refine y_condT rfl ?_ | refine y_condF rfl ?_
            | refine y_block ?_ | refine y_label ?_ | refine y_ret ?_ | refine y_end ?_)
          have NR := newO u4 (.cells #[.int .i8 0, .int .i64 0, .slice none 0 0, .slice none 0 0, .slice none 0 0, .slice none 0 0, .slice none 0 0] 43)
          generalize u4.alloc (.cells #[.int .i8 0, .int .i64 0, .slice none 0 0, .slice none 0 0, .slice none 0 0, .slice none 0 0, .slice none 0 0] 43) = u5 at NR ⊢
          obtain ⟨rb, hrb⟩ : ∃ b, b = u4.heap.size := ⟨_, rfl⟩
          rw [← hrb]
          have hr5 := NR.is
          rw [← hrb] at hr5
          refine y_storeC (vs := #[.int .i8 1, .int .i64 0, .slice o1 n1 c1, .slice o2 n2 c2, .slice o3 n3 c3, .slice o4 n4 c4, .slice none 0 0]) rfl (by rfl) rfl rfl rfl rfl rfl hr5 (by first | kernel_rfl | rfl) (Nat.le_of_ble_eq_true rfl) (by simp [Value.oneCell']) (Cfg.Free.cells (free_noseat hseat.out)) (fun u6 SR => ?_)
          try walk_nrm
          have hr6 : u6.heap[rb]? = some (.cells #[.int .i8 1, .int .i64 0, .slice o1 n1 c1, .slice o2 n2 c2, .slice o3 n3 c3, .slice o4 n4 c4, .slice none 0 0] 43) := SR.is
          have r0 : u6.cell? ⟨rb, 0, none⟩ = some (.int .i8 1) := by unfold World.cell?; rw [hr6]; rfl
          have r1 : u6.cell? ⟨rb, 1, none⟩ = some (.int .i64 0) := by unfold World.cell?; rw [hr6]; rfl
          have zr := NR.size
          have B6 : Bigger u4 u6 := ⟨by rw [SR.size]; omega, fun b hb => (SR.other b (by omega)).trans (NR.old b hb)⟩
          have g6 := (cell?_of_block (B6.old _ (lt_of_cell hg4))).trans hg4
          clear hg4
          replace B6 := Keep.mk B6
          replace SR := Keep.mk SR
          replace hr6 := Keep.mk hr6
          replace hr5 := Keep.mk hr5
          replace NR := Keep.mk NR
          replace hrb := Keep.mk hrb
          repeat (first
            | refine y_go rfl ?_
            | (refine y_region ?_; simp only [rg, Nat.reduceAdd, List.range, List.range.loop])
            | (refine y_nw rfl (by rfl) rfl (by exact nx rfl) (fun dd hS K hK => ?_); go_simp; refine hK _ _ _ ?_; clear hK K hS dd; simp only [recOf]; try walk_nrm)
            | (refine y_unwanted rfl (by rfl) ?_; try walk_nrm) | refine y_condT rfl ?_ | refine y_condF rfl ?_
            | refine y_block ?_ | refine y_label ?_ | refine y_ret ?_ | refine y_end ?_)
          refine H _ _ _ _ (leaves_at rfl rfl Try.func16 (resultsC_tmp rfl _)) ?_
          exact ⟨rfl, rfl, B02.out.trans (BZ.out.trans (BG.out.trans (B3.out.trans (B4.out.trans B6.out))))⟩
      · rw [if_neg (fun h => k1 h.1)] at hdn
        replace hdn := Keep.mk hdn
        repeat (first
          | refine y_go rfl ?_
          | (refine y_region ?_; simp only [rg, Nat.reduceAdd, List.range, List.range.loop])
          | (refine y_nw rfl (by rfl) rfl (by exact nx rfl) (fun dd hS K hK => ?_); go_simp; refine hK _ _ _ ?_; clear hK K hS dd; simp only [recOf]; try walk_nrm)
          | (refine y_unwanted rfl (by rfl) ?_; try walk_nrm) | refine y_condT rfl ?_ | refine y_condF rfl ?_
          | refine y_block ?_ | refine y_label ?_ | refine y_ret ?_ | refine y_end ?_)
        refine y_callR rfl (by rfl) rfl rfl Try.func91 (by kernel_rfl) (by kernel_rfl) (hdn.out) (by simp only [List.map_toArray, List.map_cons, List.map_nil] <;> rfl) ?_
        rintro _ σ'' v5 ⟨rfl, e2, x5⟩
        rw [e2]
        clear e2 σ''
        have BZ : Bigger w2 v5 := ⟨by rw [x5.size]; exact BW.out.size, fun b hb => (x5.old b (by have := hlc.out; intro h; have h' : b = cc := h; omega)).trans (BW.out.old b hb)⟩
        clear x5 hdn ckn k1
        walk_nrm
        have hkz := BZ.is hk2.out
        replace BZ := Keep.mk BZ
        replace hkz := Keep.mk hkz
        repeat (first
          | refine y_go rfl ?_
          | (refine y_region ?_; simp only [rg, Nat.reduceAdd, List.range, List.range.loop])
          | (refine y_nw rfl (by rfl) rfl (by exact nx rfl) (fun dd hS K hK => ?_); go_simp; refine hK _ _ _ ?_; clear hK K hS dd; simp only [recOf]; try walk_nrm)
          | (refine y_unwanted rfl (by rfl) ?_; try walk_nrm) | refine y_condT rfl ?_ | refine y_condF rfl ?_
          | refine y_block ?_ | refine y_label ?_ | refine y_ret ?_ | refine y_end ?_)
        have NG := newO v5 (.cells #[.bool false] 4)
        generalize v5.alloc (.cells #[.bool false] 4) = u1 at NG ⊢
        obtain ⟨g, hgb⟩ : ∃ b, b = v5.heap.size := ⟨_, rfl⟩
        rw [← hgb]
        have hg1 := NG.is
        rw [← hgb] at hg1
        refine y_storeC (vs := #[.bool true]) rfl (by rfl) rfl rfl rfl rfl rfl hg1 (by first | kernel_rfl | rfl) (Nat.le_of_ble_eq_true rfl) (by simp [Value.oneCell']) (Cfg.Free.cells (free_noseat hseat.out)) (fun u2 SG => ?_)
        try walk_nrm
        have hg2 : u2.heap[g]? = some (.cells #[.bool true] 4) := SG.is
        have zg := NG.size
        have BG : Bigger v5 u2 := ⟨by rw [SG.size]; omega, fun b hb => (SG.other b (by omega)).trans (NG.old b hb)⟩
        have hkg := BG.is hkz.out
        replace NG := Keep.mk NG
        replace hgb := Keep.mk hgb
        replace hg1 := Keep.mk hg1
        replace SG := Keep.mk SG
        replace hg2 := Keep.mk hg2
        replace BG := Keep.mk BG
        replace hkg := Keep.mk hkg
        repeat (first
          | refine y_go rfl ?_
          | (refine y_region ?_; simp only [rg, Nat.reduceAdd, List.range, List.range.loop])
          | (refine y_nw rfl (by rfl) rfl (by exact nx rfl) (fun dd hS K hK => ?_); go_simp; refine hK _ _ _ ?_; clear hK K hS dd; simp only [recOf]; try walk_nrm)
          | (refine y_unwanted rfl (by rfl) ?_; try walk_nrm) | refine y_condT rfl ?_ | refine y_condF rfl ?_
          | refine y_block ?_ | refine y_label ?_ | refine y_ret ?_ | refine y_end ?_)
        have NF := newO u2 (.cells #[.func (.func 95) #[] #[.pointer (some ⟨g, 0, none⟩), .pointer (some ⟨kb, 0, none⟩)]] 40)
        generalize u2.alloc (.cells #[.func (.func 95) #[] #[.pointer (some ⟨g, 0, none⟩), .pointer (some ⟨kb, 0, none⟩)]] 40) = u3 at NF ⊢
        obtain ⟨fb, hfb⟩ : ∃ b, b = u2.heap.size := ⟨_, rfl⟩
        rw [← hfb]
        have hf3 := NF.is
        rw [← hfb] at hf3
        have hg3 := (NF.old g (lt_of_get hg2.out)).trans hg2.out
        have hk3 := (NF.old kb (lt_of_get hkg.out)).trans hkg.out
        have zf := NF.size
        have B3 : Bigger u2 u3 := ⟨by omega, NF.old⟩
        have hrun := quiet_run (Fin := Fin) (facts := fun b => if b < u3.heap.size then u3.heap[b]? else none) (most := 9) (bs := [⟨95, #[], #[.pointer (some ⟨g, 0, none⟩), .pointer (some ⟨kb, 0, none⟩)]⟩]) (bbo := some ⟨fb, 0, none⟩) (bcp := 1) (σ := σ) (w := u3) (by decide) hh.out hd.out hseat.out h0.out
          (fun b o hb => by split at hb; exact hb; cases hb) (by simp)
          (fun w' hw' x hx => by
            have hx0 : x = 0 := by simp at hx; omega
            subst hx0
            refine ⟨_, rfl, ?_⟩
            have h := hw' fb _ ((if_pos (lt_of_get hf3)).trans hf3)
            show w'.cell? ⟨fb, 0, none⟩ = _
            unfold World.cell?
            rw [h]
            rfl)
          (fun x hx => by
            have hx0 : x = 0 := by simp at hx; omega
            subst hx0
            refine ⟨⟨_, Try.func95, by kernel_rfl, by kernel_rfl⟩, quiet_body fun t σ' w' hw' => ?_⟩
            exact none5 (hw' g _ ((if_pos (lt_of_get hg3)).trans hg3)).1 (hw' kb _ ((if_pos (lt_of_get hk3)).trans hk3)).1 (hw' g _ ((if_pos (lt_of_get hg3)).trans hg3)).2)
        replace NF := Keep.mk NF
        replace hfb := Keep.mk hfb
        replace hf3 := Keep.mk hf3
        replace hg3 := Keep.mk hg3
        replace hk3 := Keep.mk hk3
        replace zf := Keep.mk zf
        replace B3 := Keep.mk B3
        refine y_callR rfl (by rfl) rfl rfl Try.func30 (by kernel_rfl) (by kernel_rfl) (hrun) (by simp only [List.map_toArray, List.map_cons, List.map_nil] <;> rfl) ?_
        rintro _ σ'' u4 ⟨e2, ⟨o1, n1, c1, o2, n2, c2, o3, n3, c3, o4, n4, c4, rfl⟩, hfa, hsz⟩
        rw [e2]
        clear e2 σ'' hrun
        have B4 : Bigger u3 u4 := ⟨hsz, fun b hb => by
          have h := hfa b (u3.heap[b]) (by rw [if_pos hb]; exact Array.getElem?_eq_getElem hb)
          rw [h]; exact (Array.getElem?_eq_getElem hb).symm⟩
        have hg4 : u4.cell? ⟨g, 0, none⟩ = some (.bool true) := by unfold World.cell?; rw [B4.is hg3.out]; rfl
        clear hfa hsz
        replace B4 := Keep.mk B4
        walk_nrm
        repeat (first
          | refine y_go rfl ?_
          | (refine y_region ?_; simp only [rg, Nat.reduceAdd, List.range, List.range.loop])
          | (refine y_nw rfl (by rfl) rfl (by exact nx rfl) (fun dd hS K hK => ?_); go_simp; refine hK _ _ _ ?_; clear hK K hS dd; simp only [recOf]; try walk_nrm)
          | (refine y_unwanted rfl (by rfl) ?_; try walk_nrm) | refine y_condT rfl ?_ | refine y_condF rfl ?_
          | refine y_block ?_ | refine y_label ?_ | refine y_ret ?_ | refine y_end ?_)
        have NR := newO u4 (.cells #[.int .i8 0, .int .i64 0, .slice none 0 0, .slice none 0 0, .slice none 0 0, .slice none 0 0, .slice none 0 0] 43)
        generalize u4.alloc (.cells #[.int .i8 0, .int .i64 0, .slice none 0 0, .slice none 0 0, .slice none 0 0, .slice none 0 0, .slice none 0 0] 43) = u5 at NR ⊢
        obtain ⟨rb, hrb⟩ : ∃ b, b = u4.heap.size := ⟨_, rfl⟩
        rw [← hrb]
        have hr5 := NR.is
        rw [← hrb] at hr5
        refine y_storeC (vs := #[.int .i8 1, .int .i64 0, .slice o1 n1 c1, .slice o2 n2 c2, .slice o3 n3 c3, .slice o4 n4 c4, .slice none 0 0]) rfl (by rfl) rfl rfl rfl rfl rfl hr5 (by first | kernel_rfl | rfl) (Nat.le_of_ble_eq_true rfl) (by simp [Value.oneCell']) (Cfg.Free.cells (free_noseat hseat.out)) (fun u6 SR => ?_)
        try walk_nrm
        have hr6 : u6.heap[rb]? = some (.cells #[.int .i8 1, .int .i64 0, .slice o1 n1 c1, .slice o2 n2 c2, .slice o3 n3 c3, .slice o4 n4 c4, .slice none 0 0] 43) := SR.is
        have r0 : u6.cell? ⟨rb, 0, none⟩ = some (.int .i8 1) := by unfold World.cell?; rw [hr6]; rfl
        have r1 : u6.cell? ⟨rb, 1, none⟩ = some (.int .i64 0) := by unfold World.cell?; rw [hr6]; rfl
        have zr := NR.size
        have B6 : Bigger u4 u6 := ⟨by rw [SR.size]; omega, fun b hb => (SR.other b (by omega)).trans (NR.old b hb)⟩
        have g6 := (cell?_of_block (B6.old _ (lt_of_cell hg4))).trans hg4
        clear hg4
        replace B6 := Keep.mk B6
        replace SR := Keep.mk SR
        replace hr6 := Keep.mk hr6
        replace hr5 := Keep.mk hr5
        replace NR := Keep.mk NR
        replace hrb := Keep.mk hrb
        repeat (first
          | refine y_go rfl ?_
          | (refine y_region ?_; simp only [rg, Nat.reduceAdd, List.range, List.range.loop])
          | (refine y_nw rfl (by rfl) rfl (by exact nx rfl) (fun dd hS K hK => ?_); go_simp; refine hK _ _ _ ?_; clear hK K hS dd; simp only [recOf]; try walk_nrm)
          | (refine y_unwanted rfl (by rfl) ?_; try walk_nrm) | refine y_condT rfl ?_ | refine y_condF rfl ?_
          | refine y_block ?_ | refine y_label ?_ | refine y_ret ?_ | refine y_end ?_)
        refine H _ _ _ _ (leaves_at rfl rfl Try.func16 (resultsC_tmp rfl _)) ?_
        exact ⟨rfl, rfl, B02.out.trans (BZ.out.trans (BG.out.trans (B3.out.trans (B4.out.trans B6.out))))⟩
    · have e5 : 1 ≤ n := by omega
      refine y_callR rfl (by rfl) rfl rfl Try.func86 (by kernel_rfl) (by kernel_rfl) (barrier_new e5) (by simp only [List.map_toArray, List.map_cons, List.map_nil] <;> rfl) ?_
      rintro _ σ'' w4 ⟨rfl, e2, M4⟩
      rw [e2]
      clear e2 σ''
      have BN : Bigger w3 w4 := ⟨by have := M4.size; omega, M4.old⟩
      clear M4
      have il' := BN.is il.out
      have ic' : CellIs w4 cc n := ic.out.later (BN.old _ ic.out.lt)
      have BW : Bigger w2 w4 := B23.out.trans BN
      replace il' := Keep.mk il'
      replace ic' := Keep.mk ic'
      replace BW := Keep.mk BW
      replace BN := Keep.mk BN
      try walk_nrm
      repeat (first
        | refine y_go rfl ?_
        | (refine y_region ?_; simp only [rg, Nat.reduceAdd, List.range, List.range.loop])
        | (refine y_nw rfl (by rfl) rfl (by exact nx rfl) (fun dd hS K hK => ?_); go_simp; refine hK _ _ _ ?_; clear hK K hS dd; simp only [recOf]; try walk_nrm)
        | (refine y_unwanted rfl (by rfl) ?_; try walk_nrm) | refine y_condT rfl ?_ | refine y_condF rfl ?_
        | refine y_block ?_ | refine y_label ?_ | refine y_ret ?_ | refine y_end ?_)
      refine y_callR rfl (by rfl) rfl rfl Try.func94 (by kernel_rfl) (by kernel_rfl) (left_alone il'.out ic'.out) (by simp only [List.map_toArray, List.map_cons, List.map_nil] <;> rfl) ?_
      rintro _ σ'' w'' ⟨rfl, e2, e3⟩
      rw [e2, e3]
      clear e2 e3 w'' σ''
      walk_nrm
      repeat (first
        | refine y_go rfl ?_
        | (refine y_region ?_; simp only [rg, Nat.reduceAdd, List.range, List.range.loop])
        | (refine y_nw rfl (by rfl) rfl (by exact nx rfl) (fun dd hS K hK => ?_); go_simp; refine hK _ _ _ ?_; clear hK K hS dd; simp only [recOf]; try walk_nrm)
        | (refine y_unwanted rfl (by rfl) ?_; try walk_nrm) | refine y_condT rfl ?_ | refine y_condF rfl ?_
        | refine y_block ?_ | refine y_label ?_ | refine y_ret ?_ | refine y_end ?_)
      have hkn := BW.out.is hk2.out
      have ckn : w4.cell? ⟨kb, 0, none⟩ = some (.int .i64 k) := by unfold World.cell?; rw [hkn]; rfl
      clear hkn
      have hdn := down_alone (J := tokenJ Try.prog Fin) (k := k) il'.out hne.out ic'.out (free_noseat hseat.out) e1 hn2.out
      by_cases k1 : 1 ≤ k
      · by_cases k2 : k ≤ n
        · rw [if_pos ⟨k1, k2⟩] at hdn
          replace hdn := Keep.mk hdn
          repeat (first
            | refine y_go rfl ?_
            | (refine y_region ?_; simp only [rg, Nat.reduceAdd, List.range, List.range.loop])
            | (refine y_nw rfl (by rfl) rfl (by exact nx rfl) (fun dd hS K hK => ?_); go_simp; refine hK _ _ _ ?_; clear hK K hS dd; simp only [recOf]; try walk_nrm)
            | (refine y_unwanted rfl (by rfl) ?_; try walk_nrm) | refine y_condT rfl ?_ | refine y_condF rfl ?_
            | refine y_block ?_ | refine y_label ?_ | refine y_ret ?_ | refine y_end ?_)
          refine y_callR rfl (by rfl) rfl rfl Try.func91 (by kernel_rfl) (by kernel_rfl) (hdn.out) (by simp only [List.map_toArray, List.map_cons, List.map_nil] <;> rfl) ?_
          rintro _ σ'' v5 ⟨rfl, e2, x5⟩
          rw [e2]
          clear e2 σ''
          have BZ : Bigger w2 v5 := ⟨by rw [x5.size]; exact BW.out.size, fun b hb => (x5.old b (by have := hlc.out; intro h; have h' : b = cc := h; omega)).trans (BW.out.old b hb)⟩
          clear x5 hdn ckn k1 k2
          walk_nrm
          have hkz := BZ.is hk2.out
          replace BZ := Keep.mk BZ
          replace hkz := Keep.mk hkz
          repeat (first
            | refine y_go rfl ?_
            | (refine y_region ?_; simp only [rg, Nat.reduceAdd, List.range, List.range.loop])
            | (refine y_nw rfl (by rfl) rfl (by exact nx rfl) (fun dd hS K hK => ?_); go_simp; refine hK _ _ _ ?_; clear hK K hS dd; simp only [recOf]; try walk_nrm)
            | (refine y_unwanted rfl (by rfl) ?_; try walk_nrm) | refine y_condT rfl ?_ | refine y_condF rfl ?_
            | refine y_block ?_ | refine y_label ?_ | refine y_ret ?_ | refine y_end ?_)
          have NG := newO v5 (.cells #[.bool false] 4)
          generalize v5.alloc (.cells #[.bool false] 4) = u1 at NG ⊢
          obtain ⟨g, hgb⟩ : ∃ b, b = v5.heap.size := ⟨_, rfl⟩
          rw [← hgb]
          have hg1 := NG.is
          rw [← hgb] at hg1
          refine y_storeC (vs := #[.bool true]) rfl (by rfl) rfl rfl rfl rfl rfl hg1 (by first | kernel_rfl | rfl) (Nat.le_of_ble_eq_true rfl) (by simp [Value.oneCell']) (Cfg.Free.cells (free_noseat hseat.out)) (fun u2 SG => ?_)
          try walk_nrm
          have hg2 : u2.heap[g]? = some (.cells #[.bool true] 4) := SG.is
          have zg := NG.size
          have BG : Bigger v5 u2 := ⟨by rw [SG.size]; omega, fun b hb => (SG.other b (by omega)).trans (NG.old b hb)⟩
          have hkg := BG.is hkz.out
          replace NG := Keep.mk NG
          replace hgb := Keep.mk hgb
          replace hg1 := Keep.mk hg1
          replace SG := Keep.mk SG
          replace hg2 := Keep.mk hg2
          replace BG := Keep.mk BG
          replace hkg := Keep.mk hkg
          repeat (first
            | refine y_go rfl ?_
            | (refine y_region ?_; simp only [rg, Nat.reduceAdd, List.range, List.range.loop])
            | (refine y_nw rfl (by rfl) rfl (by exact nx rfl) (fun dd hS K hK => ?_); go_simp; refine hK _ _ _ ?_; clear hK K hS dd; simp only [recOf]; try walk_nrm)
            | (refine y_unwanted rfl (by rfl) ?_; try walk_nrm) | refine y_condT rfl ?_ | refine y_condF rfl ?_
            | refine y_block ?_ | refine y_label ?_ | refine y_ret ?_ | refine y_end ?_)
          have NF := newO u2 (.cells #[.func (.func 95) #[] #[.pointer (some ⟨g, 0, none⟩), .pointer (some ⟨kb, 0, none⟩)]] 40)
          generalize u2.alloc (.cells #[.func (.func 95) #[] #[.pointer (some ⟨g, 0, none⟩), .pointer (some ⟨kb, 0, none⟩)]] 40) = u3 at NF ⊢
          obtain ⟨fb, hfb⟩ : ∃ b, b = u2.heap.size := ⟨_, rfl⟩
          rw [← hfb]
          have hf3 := NF.is
          rw [← hfb] at hf3
          have hg3 := (NF.old g (lt_of_get hg2.out)).trans hg2.out
          have hk3 := (NF.old kb (lt_of_get hkg.out)).trans hkg.out
          have zf := NF.size
          have B3 : Bigger u2 u3 := ⟨by omega, NF.old⟩
          have hrun := quiet_run (Fin := Fin) (facts := fun b => if b < u3.heap.size then u3.heap[b]? else none) (most := 9) (bs := [⟨95, #[], #[.pointer (some ⟨g, 0, none⟩), .pointer (some ⟨kb, 0, none⟩)]⟩]) (bbo := some ⟨fb, 0, none⟩) (bcp := 1) (σ := σ) (w := u3) (by decide) hh.out hd.out hseat.out h0.out
            (fun b o hb => by split at hb; exact hb; cases hb) (by simp)
            (fun w' hw' x hx => by
              have hx0 : x = 0 := by simp at hx; omega
              subst hx0
              refine ⟨_, rfl, ?_⟩
              have h := hw' fb _ ((if_pos (lt_of_get hf3)).trans hf3)
              show w'.cell? ⟨fb, 0, none⟩ = _
              unfold World.cell?
              rw [h]
              rfl)
            (fun x hx => by
              have hx0 : x = 0 := by simp at hx; omega
              subst hx0
              refine ⟨⟨_, Try.func95, by kernel_rfl, by kernel_rfl⟩, quiet_body fun t σ' w' hw' => ?_⟩
              exact none5 (hw' g _ ((if_pos (lt_of_get hg3)).trans hg3)).1 (hw' kb _ ((if_pos (lt_of_get hk3)).trans hk3)).1 (hw' g _ ((if_pos (lt_of_get hg3)).trans hg3)).2)
          replace NF := Keep.mk NF
          replace hfb := Keep.mk hfb
          replace hf3 := Keep.mk hf3
          replace hg3 := Keep.mk hg3
          replace hk3 := Keep.mk hk3
          replace zf := Keep.mk zf
          replace B3 := Keep.mk B3
          refine y_callR rfl (by rfl) rfl rfl Try.func30 (by kernel_rfl) (by kernel_rfl) (hrun) (by simp only [List.map_toArray, List.map_cons, List.map_nil] <;> rfl) ?_
          rintro _ σ'' u4 ⟨e2, ⟨o1, n1, c1, o2, n2, c2, o3, n3, c3, o4, n4, c4, rfl⟩, hfa, hsz⟩
          rw [e2]
          clear e2 σ'' hrun
          have B4 : Bigger u3 u4 := ⟨hsz, fun b hb => by
            have h := hfa b (u3.heap[b]) (by rw [if_pos hb]; exact Array.getElem?_eq_getElem hb)
            rw [h]; exact (Array.getElem?_eq_getElem hb).symm⟩
          have hg4 : u4.cell? ⟨g, 0, none⟩ = some (.bool true) := by unfold World.cell?; rw [B4.is hg3.out]; rfl
          clear hfa hsz
          replace B4 := Keep.mk B4
          walk_nrm
          repeat (first
            | refine y_go rfl ?_
            | (refine y_region ?_; simp only [rg, Nat.reduceAdd, List.range, List.range.loop])
            | (refine y_nw rfl (by rfl) rfl (by exact nx rfl) (fun dd hS K hK => ?_); go_simp; refine hK _ _ _ ?_; clear hK K hS dd; simp only [recOf]; try walk_nrm)
            | (refine y_unwanted rfl (by rfl) ?_; try walk_nrm) | refine y_condT rfl ?_ | refine y_condF rfl ?_
            | refine y_block ?_ | refine y_label ?_ | refine y_ret ?_ | refine y_end ?_)
          have NR := newO u4 (.cells #[.int .i8 0, .int .i64 0, .slice none 0 0, .slice none 0 0, .slice none 0 0, .slice none 0 0, .slice none 0 0] 43)
          generalize u4.alloc (.cells #[.int .i8 0, .int .i64 0, .slice none 0 0, .slice none 0 0, .slice none 0 0, .slice none 0 0, .slice none 0 0] 43) = u5 at NR ⊢
          obtain ⟨rb, hrb⟩ : ∃ b, b = u4.heap.size := ⟨_, rfl⟩
          rw [← hrb]
          have hr5 := NR.is
          rw [← hrb] at hr5
          refine y_storeC (vs := #[.int .i8 1, .int .i64 0, .slice o1 n1 c1, .slice o2 n2 c2, .slice o3 n3 c3, .slice o4 n4 c4, .slice none 0 0]) rfl (by rfl) rfl rfl rfl rfl rfl hr5 (by first | kernel_rfl | rfl) (Nat.le_of_ble_eq_true rfl) (by simp [Value.oneCell']) (Cfg.Free.cells (free_noseat hseat.out)) (fun u6 SR => ?_)
          try walk_nrm
          have hr6 : u6.heap[rb]? = some (.cells #[.int .i8 1, .int .i64 0, .slice o1 n1 c1, .slice o2 n2 c2, .slice o3 n3 c3, .slice o4 n4 c4, .slice none 0 0] 43) := SR.is
          have r0 : u6.cell? ⟨rb, 0, none⟩ = some (.int .i8 1) := by unfold World.cell?; rw [hr6]; rfl
          have r1 : u6.cell? ⟨rb, 1, none⟩ = some (.int .i64 0) := by unfold World.cell?; rw [hr6]; rfl
          have zr := NR.size
          have B6 : Bigger u4 u6 := ⟨by rw [SR.size]; omega, fun b hb => (SR.other b (by omega)).trans (NR.old b hb)⟩
          have g6 := (cell?_of_block (B6.old _ (lt_of_cell hg4))).trans hg4
          clear hg4
          replace B6 := Keep.mk B6
          replace SR := Keep.mk SR
          replace hr6 := Keep.mk hr6
          replace hr5 := Keep.mk hr5
          replace NR := Keep.mk NR
          replace hrb := Keep.mk hrb
          repeat (first
            | refine y_go rfl ?_
            | (refine y_region ?_; simp only [rg, Nat.reduceAdd, List.range, List.range.loop])
            | (refine y_nw rfl (by rfl) rfl (by exact nx rfl) (fun dd hS K hK => ?_); go_simp; refine hK _ _ _ ?_; clear hK K hS dd; simp only [recOf]; try walk_nrm)
            | (refine y_unwanted rfl (by rfl) ?_; try walk_nrm) | refine y_condT rfl ?_ | refine y_condF rfl ?_
            | refine y_block ?_ | refine y_label ?_ | refine y_ret ?_ | refine y_end ?_)
          refine H _ _ _ _ (leaves_at rfl rfl Try.func16 (resultsC_tmp rfl _)) ?_
          exact ⟨rfl, rfl, B02.out.trans (BZ.out.trans (BG.out.trans (B3.out.trans (B4.out.trans B6.out))))⟩
        · rw [if_neg (fun h => k2 h.2)] at hdn
          replace hdn := Keep.mk hdn
          repeat (first
            | refine y_go rfl ?_
            | (refine y_region ?_; simp only [rg, Nat.reduceAdd, List.range, List.range.loop])
            | (refine y_nw rfl (by rfl) rfl (by exact nx rfl) (fun dd hS K hK => ?_); go_simp; refine hK _ _ _ ?_; clear hK K hS dd; simp only [recOf]; try walk_nrm)
            | (refine y_unwanted rfl (by rfl) ?_; try walk_nrm) | refine y_condT rfl ?_ | refine y_condF rfl ?_
            | refine y_block ?_ | refine y_label ?_ | refine y_ret ?_ | refine y_end ?_)
          refine y_callR rfl (by rfl) rfl rfl Try.func91 (by kernel_rfl) (by kernel_rfl) (hdn.out) (by simp only [List.map_toArray, List.map_cons, List.map_nil] <;> rfl) ?_
          rintro _ σ'' v5 ⟨rfl, e2, x5⟩
          rw [e2]
          clear e2 σ''
          have BZ : Bigger w2 v5 := ⟨by rw [x5.size]; exact BW.out.size, fun b hb => (x5.old b (by have := hlc.out; intro h; have h' : b = cc := h; omega)).trans (BW.out.old b hb)⟩
          clear x5 hdn ckn k1 k2
          walk_nrm
          have hkz := BZ.is hk2.out
          replace BZ := Keep.mk BZ
          replace hkz := Keep.mk hkz
          repeat (first
            | refine y_go rfl ?_
            | (refine y_region ?_; simp only [rg, Nat.reduceAdd, List.range, List.range.loop])
            | (refine y_nw rfl (by rfl) rfl (by exact nx rfl) (fun dd hS K hK => ?_); go_simp; refine hK _ _ _ ?_; clear hK K hS dd; simp only [recOf]; try walk_nrm)
            | (refine y_unwanted rfl (by rfl) ?_; try walk_nrm) | refine y_condT rfl ?_ | refine y_condF rfl ?_
            | refine y_block ?_ | refine y_label ?_ | refine y_ret ?_ | refine y_end ?_)
          have NG := newO v5 (.cells #[.bool false] 4)
          generalize v5.alloc (.cells #[.bool false] 4) = u1 at NG ⊢
          obtain ⟨g, hgb⟩ : ∃ b, b = v5.heap.size := ⟨_, rfl⟩
          rw [← hgb]
          have hg1 := NG.is
          rw [← hgb] at hg1
          refine y_storeC (vs := #[.bool true]) rfl (by rfl) rfl rfl rfl rfl rfl hg1 (by first | kernel_rfl | rfl) (Nat.le_of_ble_eq_true rfl) (by simp [Value.oneCell']) (Cfg.Free.cells (free_noseat hseat.out)) (fun u2 SG => ?_)
          try walk_nrm
          have hg2 : u2.heap[g]? = some (.cells #[.bool true] 4) := SG.is
          have zg := NG.size
          have BG : Bigger v5 u2 := ⟨by rw [SG.size]; omega, fun b hb => (SG.other b (by omega)).trans (NG.old b hb)⟩
          have hkg := BG.is hkz.out
          replace NG := Keep.mk NG
          replace hgb := Keep.mk hgb
          replace hg1 := Keep.mk hg1
          replace SG := Keep.mk SG
          replace hg2 := Keep.mk hg2
          replace BG := Keep.mk BG
          replace hkg := Keep.mk hkg
          repeat (first
            | refine y_go rfl ?_
            | (refine y_region ?_; simp only [rg, Nat.reduceAdd, List.range, List.range.loop])
            | (refine y_nw rfl (by rfl) rfl (by exact nx rfl) (fun dd hS K hK => ?_); go_simp; refine hK _ _ _ ?_; clear hK K hS dd; simp only [recOf]; try walk_nrm)
            | (refine y_unwanted rfl (by rfl) ?_; try walk_nrm) | refine y_condT rfl ?_ | refine y_condF rfl ?_
            | refine y_block ?_ | refine y_label ?_ | refine y_ret ?_ | refine y_end ?_)
          have NF := newO u2 (.cells #[.func (.func 95) #[] #[.pointer (some ⟨g, 0, none⟩), .pointer (some ⟨kb, 0, none⟩)]] 40)
          generalize u2.alloc (.cells #[.func (.func 95) #[] #[.pointer (some ⟨g, 0, none⟩), .pointer (some ⟨kb, 0, none⟩)]] 40) = u3 at NF ⊢
          obtain ⟨fb, hfb⟩ : ∃ b, b = u2.heap.size := ⟨_, rfl⟩
          rw [← hfb]
          have hf3 := NF.is
          rw [← hfb] at hf3
          have hg3 := (NF.old g (lt_of_get hg2.out)).trans hg2.out
          have hk3 := (NF.old kb (lt_of_get hkg.out)).trans hkg.out
          have zf := NF.size
          have B3 : Bigger u2 u3 := ⟨by omega, NF.old⟩
          have hrun := quiet_run (Fin := Fin) (facts := fun b => if b < u3.heap.size then u3.heap[b]? else none) (most := 9) (bs := [⟨95, #[], #[.pointer (some ⟨g, 0, none⟩), .pointer (some ⟨kb, 0, none⟩)]⟩]) (bbo := some ⟨fb, 0, none⟩) (bcp := 1) (σ := σ) (w := u3) (by decide) hh.out hd.out hseat.out h0.out
            (fun b o hb => by split at hb; exact hb; cases hb) (by simp)
            (fun w' hw' x hx => by
              have hx0 : x = 0 := by simp at hx; omega
              subst hx0
              refine ⟨_, rfl, ?_⟩
              have h := hw' fb _ ((if_pos (lt_of_get hf3)).trans hf3)
              show w'.cell? ⟨fb, 0, none⟩ = _
              unfold World.cell?
              rw [h]
              rfl)
            (fun x hx => by
              have hx0 : x = 0 := by simp at hx; omega
              subst hx0
              refine ⟨⟨_, Try.func95, by kernel_rfl, by kernel_rfl⟩, quiet_body fun t σ' w' hw' => ?_⟩
              exact none5 (hw' g _ ((if_pos (lt_of_get hg3)).trans hg3)).1 (hw' kb _ ((if_pos (lt_of_get hk3)).trans hk3)).1 (hw' g _ ((if_pos (lt_of_get hg3)).trans hg3)).2)
          replace NF := Keep.mk NF
          replace hfb := Keep.mk hfb
          replace hf3 := Keep.mk hf3
          replace hg3 := Keep.mk hg3
          replace hk3 := Keep.mk hk3
          replace zf := Keep.mk zf
          replace B3 := Keep.mk B3
          refine y_callR rfl (by rfl) rfl rfl Try.func30 (by kernel_rfl) (by kernel_rfl) (hrun) (by simp only [List.map_toArray, List.map_cons, List.map_nil] <;> rfl) ?_
          rintro _ σ'' u4 ⟨e2, ⟨o1, n1, c1, o2, n2, c2, o3, n3, c3, o4, n4, c4, rfl⟩, hfa, hsz⟩
          rw [e2]
          clear e2 σ'' hrun
          have B4 : Bigger u3 u4 := ⟨hsz, fun b hb => by
            have h := hfa b (u3.heap[b]) (by rw [if_pos hb]; exact Array.getElem?_eq_getElem hb)
            rw [h]; exact (Array.getElem?_eq_getElem hb).symm⟩
          have hg4 : u4.cell? ⟨g, 0, none⟩ = some (.bool true) := by unfold World.cell?; rw [B4.is hg3.out]; rfl
          clear hfa hsz
          replace B4 := Keep.mk B4
          walk_nrm
          repeat (first
            | refine y_go rfl ?_
            | (refine y_region ?_; simp only [rg, Nat.reduceAdd, List.range, List.range.loop])
            | (refine y_nw rfl (by rfl) rfl (by exact nx rfl) (fun dd hS K hK => ?_); go_simp; refine hK _ _ _ ?_; clear hK K hS dd; simp only [recOf]; try walk_nrm)
            | (refine y_unwanted rfl (by rfl) ?_; try walk_nrm) | refine y_condT rfl ?_ | refine y_condF rfl ?_
            | refine y_block ?_ | refine y_label ?_ | refine y_ret ?_ | refine y_end ?_)
          have NR := newO u4 (.cells #[.int .i8 0, .int .i64 0, .slice none 0 0, .slice none 0 0, .slice none 0 0, .slice none 0 0, .slice none 0 0] 43)
          generalize u4.alloc (.cells #[.int .i8 0, .int .i64 0, .slice none 0 0, .slice none 0 0, .slice none 0 0, .slice none 0 0, .slice none 0 0] 43) = u5 at NR ⊢
          obtain ⟨rb, hrb⟩ : ∃ b, b = u4.heap.size := ⟨_, rfl⟩
          rw [← hrb]
          have hr5 := NR.is
          rw [← hrb] at hr5
          refine y_storeC (vs := #[.int .i8 1, .int .i64 0, .slice o1 n1 c1, .slice o2 n2 c2, .slice o3 n3 c3, .slice o4 n4 c4, .slice none 0 0]) rfl (by rfl) rfl rfl rfl rfl rfl hr5 (by first | kernel_rfl | rfl) (Nat.le_of_ble_eq_true rfl) (by simp [Value.oneCell']) (Cfg.Free.cells (free_noseat hseat.out)) (fun u6 SR => ?_)
          try walk_nrm
          have hr6 : u6.heap[rb]? = some (.cells #[.int .i8 1, .int .i64 0, .slice o1 n1 c1, .slice o2 n2 c2, .slice o3 n3 c3, .slice o4 n4 c4, .slice none 0 0] 43) := SR.is
          have r0 : u6.cell? ⟨rb, 0, none⟩ = some (.int .i8 1) := by unfold World.cell?; rw [hr6]; rfl
          have r1 : u6.cell? ⟨rb, 1, none⟩ = some (.int .i64 0) := by unfold World.cell?; rw [hr6]; rfl
          have zr := NR.size
          have B6 : Bigger u4 u6 := ⟨by rw [SR.size]; omega, fun b hb => (SR.other b (by omega)).trans (NR.old b hb)⟩
          have g6 := (cell?_of_block (B6.old _ (lt_of_cell hg4))).trans hg4
          clear hg4
          replace B6 := Keep.mk B6
          replace SR := Keep.mk SR
          replace hr6 := Keep.mk hr6
          replace hr5 := Keep.mk hr5
          replace NR := Keep.mk NR
          replace hrb := Keep.mk hrb
          repeat (first
            | refine y_go rfl ?_
            | (refine y_region ?_; simp only [rg, Nat.reduceAdd, List.range, List.range.loop])
            | (refine y_nw rfl (by rfl) rfl (by exact nx rfl) (fun dd hS K hK => ?_); go_simp; refine hK _ _ _ ?_; clear hK K hS dd; simp only [recOf]; try walk_nrm)
            | (refine y_unwanted rfl (by rfl) ?_; try walk_nrm) | refine y_condT rfl ?_ | refine y_condF rfl ?_
            | refine y_block ?_ | refine y_label ?_ | refine y_ret ?_ | refine y_end ?_)
          refine H _ _ _ _ (leaves_at rfl rfl Try.func16 (resultsC_tmp rfl _)) ?_
          exact ⟨rfl, rfl, B02.out.trans (BZ.out.trans (BG.out.trans (B3.out.trans (B4.out.trans B6.out))))⟩
      · rw [if_neg (fun h => k1 h.1)] at hdn
        replace hdn := Keep.mk hdn
        repeat (first
          | refine y_go rfl ?_
          | (refine y_region ?_; simp only [rg, Nat.reduceAdd, List.range, List.range.loop])
          | (refine y_nw rfl (by rfl) rfl (by exact nx rfl) (fun dd hS K hK => ?_); go_simp; refine hK _ _ _ ?_; clear hK K hS dd; simp only [recOf]; try walk_nrm)
          | (refine y_unwanted rfl (by rfl) ?_; try walk_nrm) | refine y_condT rfl ?_ | refine y_condF rfl ?_
          | refine y_block ?_ | refine y_label ?_ | refine y_ret ?_ | refine y_end ?_)
        refine y_callR rfl (by rfl) rfl rfl Try.func91 (by kernel_rfl) (by kernel_rfl) (hdn.out) (by simp only [List.map_toArray, List.map_cons, List.map_nil] <;> rfl) ?_
        rintro _ σ'' v5 ⟨rfl, e2, x5⟩
        rw [e2]
        clear e2 σ''
        have BZ : Bigger w2 v5 := ⟨by rw [x5.size]; exact BW.out.size, fun b hb => (x5.old b (by have := hlc.out; intro h; have h' : b = cc := h; omega)).trans (BW.out.old b hb)⟩
        clear x5 hdn ckn k1
        walk_nrm
        have hkz := BZ.is hk2.out
        replace BZ := Keep.mk BZ
        replace hkz := Keep.mk hkz
        repeat (first
          | refine y_go rfl ?_
          | (refine y_region ?_; simp only [rg, Nat.reduceAdd, List.range, List.range.loop])
          | (refine y_nw rfl (by rfl) rfl (by exact nx rfl) (fun dd hS K hK => ?_); go_simp; refine hK _ _ _ ?_; clear hK K hS dd; simp only [recOf]; try walk_nrm)
          | (refine y_unwanted rfl (by rfl) ?_; try walk_nrm) | refine y_condT rfl ?_ | refine y_condF rfl ?_
          | refine y_block ?_ | refine y_label ?_ | refine y_ret ?_ | refine y_end ?_)
        have NG := newO v5 (.cells #[.bool false] 4)
        generalize v5.alloc (.cells #[.bool false] 4) = u1 at NG ⊢
        obtain ⟨g, hgb⟩ : ∃ b, b = v5.heap.size := ⟨_, rfl⟩
        rw [← hgb]
        have hg1 := NG.is
        rw [← hgb] at hg1
        refine y_storeC (vs := #[.bool true]) rfl (by rfl) rfl rfl rfl rfl rfl hg1 (by first | kernel_rfl | rfl) (Nat.le_of_ble_eq_true rfl) (by simp [Value.oneCell']) (Cfg.Free.cells (free_noseat hseat.out)) (fun u2 SG => ?_)
        try walk_nrm
        have hg2 : u2.heap[g]? = some (.cells #[.bool true] 4) := SG.is
        have zg := NG.size
        have BG : Bigger v5 u2 := ⟨by rw [SG.size]; omega, fun b hb => (SG.other b (by omega)).trans (NG.old b hb)⟩
        have hkg := BG.is hkz.out
        replace NG := Keep.mk NG
        replace hgb := Keep.mk hgb
        replace hg1 := Keep.mk hg1
        replace SG := Keep.mk SG
        replace hg2 := Keep.mk hg2
        replace BG := Keep.mk BG
        replace hkg := Keep.mk hkg
        repeat (first
          | refine y_go rfl ?_
          | (refine y_region ?_; simp only [rg, Nat.reduceAdd, List.range, List.range.loop])
          | (refine y_nw rfl (by rfl) rfl (by exact nx rfl) (fun dd hS K hK => ?_); go_simp; refine hK _ _ _ ?_; clear hK K hS dd; simp only [recOf]; try walk_nrm)
          | (refine y_unwanted rfl (by rfl) ?_; try walk_nrm) | refine y_condT rfl ?_ | refine y_condF rfl ?_
          | refine y_block ?_ | refine y_label ?_ | refine y_ret ?_ | refine y_end ?_)
        have NF := newO u2 (.cells #[.func (.func 95) #[] #[.pointer (some ⟨g, 0, none⟩), .pointer (some ⟨kb, 0, none⟩)]] 40)
        generalize u2.alloc (.cells #[.func (.func 95) #[] #[.pointer (some ⟨g, 0, none⟩), .pointer (some ⟨kb, 0, none⟩)]] 40) = u3 at NF ⊢
        obtain ⟨fb, hfb⟩ : ∃ b, b = u2.heap.size := ⟨_, rfl⟩
        rw [← hfb]
        have hf3 := NF.is
        rw [← hfb] at hf3
        have hg3 := (NF.old g (lt_of_get hg2.out)).trans hg2.out
        have hk3 := (NF.old kb (lt_of_get hkg.out)).trans hkg.out
        have zf := NF.size
        have B3 : Bigger u2 u3 := ⟨by omega, NF.old⟩
        have hrun := quiet_run (Fin := Fin) (facts := fun b => if b < u3.heap.size then u3.heap[b]? else none) (most := 9) (bs := [⟨95, #[], #[.pointer (some ⟨g, 0, none⟩), .pointer (some ⟨kb, 0, none⟩)]⟩]) (bbo := some ⟨fb, 0, none⟩) (bcp := 1) (σ := σ) (w := u3) (by decide) hh.out hd.out hseat.out h0.out
          (fun b o hb => by split at hb; exact hb; cases hb) (by simp)
          (fun w' hw' x hx => by
            have hx0 : x = 0 := by simp at hx; omega
            subst hx0
            refine ⟨_, rfl, ?_⟩
            have h := hw' fb _ ((if_pos (lt_of_get hf3)).trans hf3)
            show w'.cell? ⟨fb, 0, none⟩ = _
            unfold World.cell?
            rw [h]
            rfl)
          (fun x hx => by
            have hx0 : x = 0 := by simp at hx; omega
            subst hx0
            refine ⟨⟨_, Try.func95, by kernel_rfl, by kernel_rfl⟩, quiet_body fun t σ' w' hw' => ?_⟩
            exact none5 (hw' g _ ((if_pos (lt_of_get hg3)).trans hg3)).1 (hw' kb _ ((if_pos (lt_of_get hk3)).trans hk3)).1 (hw' g _ ((if_pos (lt_of_get hg3)).trans hg3)).2)
        replace NF := Keep.mk NF
        replace hfb := Keep.mk hfb
        replace hf3 := Keep.mk hf3
        replace hg3 := Keep.mk hg3
        replace hk3 := Keep.mk hk3
        replace zf := Keep.mk zf
        replace B3 := Keep.mk B3
        refine y_callR rfl (by rfl) rfl rfl Try.func30 (by kernel_rfl) (by kernel_rfl) (hrun) (by simp only [List.map_toArray, List.map_cons, List.map_nil] <;> rfl) ?_
        rintro _ σ'' u4 ⟨e2, ⟨o1, n1, c1, o2, n2, c2, o3, n3, c3, o4, n4, c4, rfl⟩, hfa, hsz⟩
        rw [e2]
        clear e2 σ'' hrun
        have B4 : Bigger u3 u4 := ⟨hsz, fun b hb => by
          have h := hfa b (u3.heap[b]) (by rw [if_pos hb]; exact Array.getElem?_eq_getElem hb)
          rw [h]; exact (Array.getElem?_eq_getElem hb).symm⟩
        have hg4 : u4.cell? ⟨g, 0, none⟩ = some (.bool true) := by unfold World.cell?; rw [B4.is hg3.out]; rfl
        clear hfa hsz
        replace B4 := Keep.mk B4
        walk_nrm
        repeat (first
          | refine y_go rfl ?_
          | (refine y_region ?_; simp only [rg, Nat.reduceAdd, List.range, List.range.loop])
          | (refine y_nw rfl (by rfl) rfl (by exact nx rfl) (fun dd hS K hK => ?_); go_simp; refine hK _ _ _ ?_; clear hK K hS dd; simp only [recOf]; try walk_nrm)
          | (refine y_unwanted rfl (by rfl) ?_; try walk_nrm) | refine y_condT rfl ?_ | refine y_condF rfl ?_
          | refine y_block ?_ | refine y_label ?_ | refine y_ret ?_ | refine y_end ?_)
        have NR := newO u4 (.cells #[.int .i8 0, .int .i64 0, .slice none 0 0, .slice none 0 0, .slice none 0 0, .slice none 0 0, .slice none 0 0] 43)
        generalize u4.alloc (.cells #[.int .i8 0, .int .i64 0, .slice none 0 0, .slice none 0 0, .slice none 0 0, .slice none 0 0, .slice none 0 0] 43) = u5 at NR ⊢
        obtain ⟨rb, hrb⟩ : ∃ b, b = u4.heap.size := ⟨_, rfl⟩
        rw [← hrb]
        have hr5 := NR.is
        rw [← hrb] at hr5
        refine y_storeC (vs := #[.int .i8 1, .int .i64 0, .slice o1 n1 c1, .slice o2 n2 c2, .slice o3 n3 c3, .slice o4 n4 c4, .slice none 0 0]) rfl (by rfl) rfl rfl rfl rfl rfl hr5 (by first | kernel_rfl | rfl) (Nat.le_of_ble_eq_true rfl) (by simp [Value.oneCell']) (Cfg.Free.cells (free_noseat hseat.out)) (fun u6 SR => ?_)
        try walk_nrm
        have hr6 : u6.heap[rb]? = some (.cells #[.int .i8 1, .int .i64 0, .slice o1 n1 c1, .slice o2 n2 c2, .slice o3 n3 c3, .slice o4 n4 c4, .slice none 0 0] 43) := SR.is
        have r0 : u6.cell? ⟨rb, 0, none⟩ = some (.int .i8 1) := by unfold World.cell?; rw [hr6]; rfl
        have r1 : u6.cell? ⟨rb, 1, none⟩ = some (.int .i64 0) := by unfold World.cell?; rw [hr6]; rfl
        have zr := NR.size
        have B6 : Bigger u4 u6 := ⟨by rw [SR.size]; omega, fun b hb => (SR.other b (by omega)).trans (NR.old b hb)⟩
        have g6 := (cell?_of_block (B6.old _ (lt_of_cell hg4))).trans hg4
        clear hg4
        replace B6 := Keep.mk B6
        replace SR := Keep.mk SR
        replace hr6 := Keep.mk hr6
        replace hr5 := Keep.mk hr5
        replace NR := Keep.mk NR
        replace hrb := Keep.mk hrb
        repeat (first
          | refine y_go rfl ?_
          | (refine y_region ?_; simp only [rg, Nat.reduceAdd, List.range, List.range.loop])
          | (refine y_nw rfl (by rfl) rfl (by exact nx rfl) (fun dd hS K hK => ?_); go_simp; refine hK _ _ _ ?_; clear hK K hS dd; simp only [recOf]; try walk_nrm)
          | (refine y_unwanted rfl (by rfl) ?_; try walk_nrm) | refine y_condT rfl ?_ | refine y_condF rfl ?_
          | refine y_block ?_ | refine y_label ?_ | refine y_ret ?_ | refine y_end ?_)
        refine H _ _ _ _ (leaves_at rfl rfl Try.func16 (resultsC_tmp rfl _)) ?_
        exact ⟨rfl, rfl, B02.out.trans (BZ.out.trans (BG.out.trans (B3.out.trans (B4.out.trans B6.out))))⟩
end
end Go.Proofs.Ytcibnfjpagmdaaa
