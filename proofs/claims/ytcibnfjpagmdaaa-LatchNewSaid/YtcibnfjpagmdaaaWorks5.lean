/- Law 5's works returns true. -/
import Derived.Test.YtcibnfjpagmdaaaLatch5
set_option linter.unusedSimpArgs false
set_option linter.unusedVariables false
set_option maxRecDepth 100000
set_option maxHeartbeats 8000000
namespace Go.Proofs.Ytcibnfjpagmdaaa
open Go.TX Go.Conc Go.RowKit Go.MapKept

section
variable {J : Judge Try.prog} {σ : Cfg} {w : World}
theorem holds_gen {S : Nat → Prop} {w : World} {m m' : Nat → Int} (h : Holds S σ w m) (e : m = m') : Holds S σ w m' := e ▸ h

theorem works5 : CallsX J 79 #[] σ w fun v σ' w' => v = .bool true ∧ σ' = σ ∧ Bigger w w' := by
  refine callsX_body Try.func79 rfl fun c cs H HN => J.snd _ _ _ fun hs => ?_
  simp only [Try.f79, Try.ntmps79, List.size_toArray, List.length_cons, List.length_nil, Nat.reduceAdd, Nat.reduceSub, Nat.zero_add, Array.replicate_succ, Array.replicate_zero, List.push_toArray, List.append_toArray, List.nil_append, List.cons_append, List.append_nil]
  replace H := Keep.mk H
  replace hs := Keep.mk hs
  repeat (first
    | refine y_go rfl ?_
    | (refine y_region ?_; simp only [rg, Nat.reduceAdd, List.range, List.range.loop])
    | (refine y_nw rfl (by rfl) rfl (by exact nx rfl) (fun dd hS K hK => ?_); go_simp; refine hK _ _ _ ?_; clear hK K hS dd; simp only [recOf]; try walk_nrm)
    | (refine y_unwanted rfl (by rfl) ?_; try walk_nrm) | refine y_condT rfl ?_ | refine y_condF rfl ?_
    | refine y_block ?_ | refine y_label ?_ | refine y_ret ?_ | refine y_end ?_)
  refine y_callR rfl (by rfl) rfl rfl Try.func89 (by kernel_rfl) (by kernel_rfl) (latch_new (k := 2) (by decide)) (by simp only [List.map_toArray, List.map_cons, List.map_nil] <;> rfl) ?_
  rintro _ σ'' w1 ⟨rfl, e2, M1⟩
  rw [e2]
  clear e2 σ''
  obtain ⟨c0, hc0⟩ : ∃ b, b = w.heap.size := ⟨_, rfl⟩
  obtain ⟨l0, hl0⟩ : ∃ b, b = w.heap.size + 1 := ⟨_, rfl⟩
  rw [← hl0]
  replace M1 := Keep.mk M1
  replace hc0 := Keep.mk hc0
  replace hl0 := Keep.mk hl0
  walk_nrm
  repeat (first
    | refine y_go rfl ?_
    | (refine y_region ?_; simp only [rg, Nat.reduceAdd, List.range, List.range.loop])
    | (refine y_nw rfl (by rfl) rfl (by exact nx rfl) (fun dd hS K hK => ?_); go_simp; refine hK _ _ _ ?_; clear hK K hS dd; simp only [recOf]; try walk_nrm)
    | (refine y_unwanted rfl (by rfl) ?_; try walk_nrm) | refine y_condT rfl ?_ | refine y_condF rfl ?_
    | refine y_block ?_ | refine y_label ?_ | refine y_ret ?_ | refine y_end ?_)
  refine y_callR rfl (by rfl) rfl rfl Try.func81 (by kernel_rfl) (by kernel_rfl) (lock_new) (by simp only [List.map_toArray, List.map_cons, List.map_nil] <;> rfl) ?_
  rintro _ σ'' w2 ⟨rfl, e2, M2⟩
  rw [e2]
  clear e2 σ''
  obtain ⟨c1, hc1⟩ : ∃ b, b = w1.heap.size := ⟨_, rfl⟩
  obtain ⟨l1, hl1⟩ : ∃ b, b = w1.heap.size + 1 := ⟨_, rfl⟩
  rw [← hl1]
  replace M2 := Keep.mk M2
  replace hc1 := Keep.mk hc1
  replace hl1 := Keep.mk hl1
  walk_nrm
  repeat (first
    | refine y_go rfl ?_
    | (refine y_region ?_; simp only [rg, Nat.reduceAdd, List.range, List.range.loop])
    | (refine y_nw rfl (by rfl) rfl (by exact nx rfl) (fun dd hS K hK => ?_); go_simp; refine hK _ _ _ ?_; clear hK K hS dd; simp only [recOf]; try walk_nrm)
    | (refine y_unwanted rfl (by rfl) ?_; try walk_nrm) | refine y_condT rfl ?_ | refine y_condF rfl ?_
    | refine y_block ?_ | refine y_label ?_ | refine y_ret ?_ | refine y_end ?_)
  refine y_callR rfl (by rfl) rfl rfl Try.func86 (by kernel_rfl) (by kernel_rfl) (barrier_new (k := 1) (by decide)) (by simp only [List.map_toArray, List.map_cons, List.map_nil] <;> rfl) ?_
  rintro _ σ'' w3 ⟨rfl, e2, M3⟩
  rw [e2]
  clear e2 σ''
  obtain ⟨c2, hc2⟩ : ∃ b, b = w2.heap.size := ⟨_, rfl⟩
  obtain ⟨c3, hc3⟩ : ∃ b, b = w2.heap.size + 1 := ⟨_, rfl⟩
  obtain ⟨l2, hl2⟩ : ∃ b, b = w2.heap.size + 1 + 1 := ⟨_, rfl⟩
  rw [← hl2]
  have z1 := M1.out.size
  have z2 := M2.out.size
  have z3 := M3.size
  have n0 := hc0.out
  have n1 := hc1.out
  have k0 := hl0.out
  have k1 := hl1.out
  obtain ⟨S, hS⟩ : ∃ S : Nat → Prop, S = fun b => b = c0 ∨ b = c1 ∨ b = c2 ∨ b = c3 := ⟨_, rfl⟩
  have s0 : S c0 := by rw [hS]; exact .inl rfl
  have s1 : S c1 := by rw [hS]; exact .inr (.inl rfl)
  have s2 : S c2 := by rw [hS]; exact .inr (.inr (.inl rfl))
  have s3 : S c3 := by rw [hS]; exact .inr (.inr (.inr rfl))
  have t0 : ¬ S l0 := by rw [hS]; rintro (h | h | h | h) <;> omega
  have t1 : ¬ S l1 := by rw [hS]; rintro (h | h | h | h) <;> omega
  have t2 : ¬ S l2 := by rw [hS]; rintro (h | h | h | h) <;> omega
  have d01 : c0 ≠ c1 := by omega
  have d02 : c0 ≠ c2 := by omega
  have d03 : c0 ≠ c3 := by omega
  have d12 : c1 ≠ c2 := by omega
  have d13 : c1 ≠ c3 := by omega
  have d23 : c2 ≠ c3 := by omega
  have i0 : w3.heap[l0]? = some (.cells #[.pointer (some ⟨c0, 0, none⟩)] 169) := by rw [k0, n0]; exact (M3.old _ (by omega)).trans ((M2.out.old _ (by omega)).trans M1.out.str)
  have i1 : w3.heap[l1]? = some (.cells #[.pointer (some ⟨c1, 0, none⟩)] 171) := by rw [k1, n1]; exact (M3.old _ (by omega)).trans M2.out.str
  have i2 : w3.heap[l2]? = some (.cells #[.int .i64 1, .pointer (some ⟨c2, 0, none⟩), .pointer (some ⟨c3, 0, none⟩)] 174) := by rw [hl2, hc2, hc3]; exact M3.str
  obtain ⟨m, hm⟩ : ∃ m : Nat → Int, m = fun b => if b = c0 then 2 else 0 := ⟨_, rfl⟩
  have hB3 : Bigger w w3 := ⟨by omega, fun b hb => (M3.old b (by omega)).trans ((M2.out.old b (by omega)).trans (M1.out.old b hb))⟩
  have hH : Holds S σ w3 m := ⟨fun b hb => by
    rw [hS] at hb
    rw [hm]
    rcases hb with rfl | rfl | rfl | rfl
    · simp only [if_true]; rw [n0]; exact (M1.out.cell.later (M2.out.old _ (by omega))).later (M3.old _ (by omega))
    · simp only [d01.symm, if_false]; rw [n1]; exact M2.out.cell.later (M3.old _ (by omega))
    · simp only [d02.symm, if_false]; rw [hc2]; exact M3.rd
    · simp only [d03.symm, if_false]; rw [hc3]; exact M3.cnt, fun b hb => free_fresh hs.out (by rw [hS] at hb; rcases hb with h | h | h | h <;> omega)⟩
  have q0 : m c0 = 2 := by rw [hm]; simp
  have q1 : m c1 = 0 := by rw [hm]; simp [d01.symm]
  have q2 : m c2 = 0 := by rw [hm]; simp [d02.symm]
  have q3 : m c3 = 0 := by rw [hm]; simp [d03.symm]
  have hlS : ∀ b, S b → w.heap.size ≤ b := fun b hb => by rw [hS] at hb; rcases hb with h | h | h | h <;> omega
  clear hm z1 z2 z3 n0 n1 k0 k1 M1 M2 M3 hc0 hl0 hc1 hl1 hc2 hc3 hl2 hS w1 w2
  replace hB3 := Keep.mk hB3
  replace hH := Keep.mk hH
  replace q0 := Keep.mk q0
  replace q1 := Keep.mk q1
  replace q2 := Keep.mk q2
  replace q3 := Keep.mk q3
  replace i0 := Keep.mk i0
  replace i1 := Keep.mk i1
  replace i2 := Keep.mk i2
  replace s0 := Keep.mk s0
  replace s1 := Keep.mk s1
  replace s2 := Keep.mk s2
  replace s3 := Keep.mk s3
  replace t0 := Keep.mk t0
  replace t1 := Keep.mk t1
  replace t2 := Keep.mk t2
  replace d01 := Keep.mk d01
  replace d02 := Keep.mk d02
  replace d03 := Keep.mk d03
  replace d12 := Keep.mk d12
  replace d13 := Keep.mk d13
  replace d23 := Keep.mk d23
  replace hlS := Keep.mk hlS
  walk_nrm
  repeat (first
    | refine y_go rfl ?_
    | (refine y_region ?_; simp only [rg, Nat.reduceAdd, List.range, List.range.loop])
    | (refine y_nw rfl (by rfl) rfl (by exact nx rfl) (fun dd hS K hK => ?_); go_simp; refine hK _ _ _ ?_; clear hK K hS dd; simp only [recOf]; try walk_nrm)
    | (refine y_unwanted rfl (by rfl) ?_; try walk_nrm) | refine y_condT rfl ?_ | refine y_condF rfl ?_
    | refine y_block ?_ | refine y_label ?_ | refine y_ret ?_ | refine y_end ?_)
  refine y_callR rfl (by rfl) rfl rfl Try.func88 (by kernel_rfl) (by kernel_rfl) (arrive_free hH.out s3.out s2.out i2.out t2.out d23.out q2.out q3.out) (by simp only [List.map_toArray, List.map_cons, List.map_nil] <;> rfl) ?_
  rintro _ σ'' w4 ⟨rfl, e2, x4, hH4⟩
  rw [e2]
  clear e2 σ''
  have i0' := (x4.old l0 t0.out).trans i0.out
  have i1' := (x4.old l1 t1.out).trans i1.out
  have i2' := (x4.old l2 t2.out).trans i2.out
  have hB4 : Bigger w w4 := ⟨by rw [x4.size]; exact hB3.out.size, fun b hb => (x4.old b fun h => by have := hlS.out b h; omega).trans (hB3.out.old b hb)⟩
  have w1 : IntKind.i64.wrap (0 + 1) = 1 := by decide
  rw [w1] at hH4
  have p0 : setAt (setAt m c3 0) c2 1 c0 = 2 := by rw [setAt_ne _ _ d02.out, setAt_ne _ _ d03.out]; exact q0.out
  have p1 : setAt (setAt m c3 0) c2 1 c1 = 0 := by rw [setAt_ne _ _ d12.out, setAt_ne _ _ d13.out]; exact q1.out
  have p2 : setAt (setAt m c3 0) c2 1 c2 = 1 := setAt_same _ _ _
  have p3 : setAt (setAt m c3 0) c2 1 c3 = 0 := by rw [setAt_ne _ _ d23.out.symm, setAt_same]
  generalize setAt (setAt m c3 0) c2 1 = m4 at hH4 p0 p1 p2 p3
  clear hH q0 q1 q2 q3 i0 i1 i2 hB3 x4 w1
  replace hH4 := Keep.mk hH4
  replace p0 := Keep.mk p0
  replace p1 := Keep.mk p1
  replace p2 := Keep.mk p2
  replace p3 := Keep.mk p3
  replace i0' := Keep.mk i0'
  replace i1' := Keep.mk i1'
  replace i2' := Keep.mk i2'
  replace hB4 := Keep.mk hB4
  walk_nrm
  repeat (first
    | refine y_go rfl ?_
    | (refine y_region ?_; simp only [rg, Nat.reduceAdd, List.range, List.range.loop])
    | (refine y_nw rfl (by rfl) rfl (by exact nx rfl) (fun dd hS K hK => ?_); go_simp; refine hK _ _ _ ?_; clear hK K hS dd; simp only [recOf]; try walk_nrm)
    | (refine y_unwanted rfl (by rfl) ?_; try walk_nrm) | refine y_condT rfl ?_ | refine y_condF rfl ?_
    | refine y_block ?_ | refine y_label ?_ | refine y_ret ?_ | refine y_end ?_)
  refine y_callR rfl (by rfl) rfl rfl Try.func88 (by kernel_rfl) (by kernel_rfl) (arrive_free hH4.out s3.out s2.out i2'.out t2.out d23.out p2.out p3.out) (by simp only [List.map_toArray, List.map_cons, List.map_nil] <;> rfl) ?_
  rintro _ σ'' w5 ⟨rfl, e2, x5, hH5⟩
  rw [e2]
  clear e2 σ''
  have i0 := (x5.old l0 t0.out).trans i0'.out
  have i1 := (x5.old l1 t1.out).trans i1'.out
  have hB5 : Bigger w w5 := ⟨by rw [x5.size]; exact hB4.out.size, fun b hb => (x5.old b fun h => by have := hlS.out b h; omega).trans (hB4.out.old b hb)⟩
  have q0 : setAt (setAt m4 c3 0) c2 (IntKind.i64.wrap (1 + 1)) c0 = 2 := by rw [setAt_ne _ _ d02.out, setAt_ne _ _ d03.out]; exact p0.out
  have q1 : setAt (setAt m4 c3 0) c2 (IntKind.i64.wrap (1 + 1)) c1 = 0 := by rw [setAt_ne _ _ d12.out, setAt_ne _ _ d13.out]; exact p1.out
  generalize setAt (setAt m4 c3 0) c2 (IntKind.i64.wrap (1 + 1)) = m5 at hH5 q0 q1
  clear hH4 p0 p1 p2 p3 i0' i1' i2' hB4 x5
  replace hH5 := Keep.mk hH5
  replace q0 := Keep.mk q0
  replace q1 := Keep.mk q1
  replace i0 := Keep.mk i0
  replace i1 := Keep.mk i1
  replace hB5 := Keep.mk hB5
  walk_nrm
  repeat (first
    | refine y_go rfl ?_
    | (refine y_region ?_; simp only [rg, Nat.reduceAdd, List.range, List.range.loop])
    | (refine y_nw rfl (by rfl) rfl (by exact nx rfl) (fun dd hS K hK => ?_); go_simp; refine hK _ _ _ ?_; clear hK K hS dd; simp only [recOf]; try walk_nrm)
    | (refine y_unwanted rfl (by rfl) ?_; try walk_nrm) | refine y_condT rfl ?_ | refine y_condF rfl ?_
    | refine y_block ?_ | refine y_label ?_ | refine y_ret ?_ | refine y_end ?_)
  refine y_callR rfl (by rfl) rfl rfl Try.func91 (by kernel_rfl) (by kernel_rfl) (down_free (k := 2) hH5.out s0.out i0.out t0.out q0.out (by decide) (by decide) (by decide)) (by simp only [List.map_toArray, List.map_cons, List.map_nil] <;> rfl) ?_
  rintro _ σ'' w6 ⟨rfl, e2, x6, hH6⟩
  rw [e2]
  clear e2 σ''
  have i0' := (x6.old l0 t0.out).trans i0.out
  have i1' := (x6.old l1 t1.out).trans i1.out
  have hB6 : Bigger w w6 := ⟨by rw [x6.size]; exact hB5.out.size, fun b hb => (x6.old b fun h => by have := hlS.out b h; omega).trans (hB5.out.old b hb)⟩
  have p0 : setAt m5 c0 (2 - 2) c0 = 0 := setAt_same _ _ _
  have p1 : setAt m5 c0 (2 - 2) c1 = 0 := by rw [setAt_ne _ _ d01.out.symm]; exact q1.out
  generalize setAt m5 c0 (2 - 2) = m6 at hH6 p0 p1
  clear hH5 q0 q1 i0 i1 hB5 x6
  replace hH6 := Keep.mk hH6
  replace p0 := Keep.mk p0
  replace p1 := Keep.mk p1
  replace i0' := Keep.mk i0'
  replace i1' := Keep.mk i1'
  replace hB6 := Keep.mk hB6
  walk_nrm
  repeat (first
    | refine y_go rfl ?_
    | (refine y_region ?_; simp only [rg, Nat.reduceAdd, List.range, List.range.loop])
    | (refine y_nw rfl (by rfl) rfl (by exact nx rfl) (fun dd hS K hK => ?_); go_simp; refine hK _ _ _ ?_; clear hK K hS dd; simp only [recOf]; try walk_nrm)
    | (refine y_unwanted rfl (by rfl) ?_; try walk_nrm) | refine y_condT rfl ?_ | refine y_condF rfl ?_
    | refine y_block ?_ | refine y_label ?_ | refine y_ret ?_ | refine y_end ?_)
  refine y_callR rfl (by rfl) rfl rfl Try.func93 (by kernel_rfl) (by kernel_rfl) (wait_free hH6.out s0.out i0'.out t0.out p0.out) (by simp only [List.map_toArray, List.map_cons, List.map_nil] <;> rfl) ?_
  rintro _ σ'' w7 ⟨rfl, e2, x7, hH7⟩
  rw [e2]
  clear e2 σ''
  have i1 := (x7.old l1 t1.out).trans i1'.out
  have hB7 : Bigger w w7 := ⟨by rw [x7.size]; exact hB6.out.size, fun b hb => (x7.old b fun h => by have := hlS.out b h; omega).trans (hB6.out.old b hb)⟩
  have q1 : setAt m6 c0 0 c1 = 0 := by rw [setAt_ne _ _ d01.out.symm]; exact p1.out
  generalize setAt m6 c0 0 = m7 at hH7 q1
  clear hH6 p0 p1 i0' i1' hB6 x7
  replace hH7 := Keep.mk hH7
  replace q1 := Keep.mk q1
  replace i1 := Keep.mk i1
  replace hB7 := Keep.mk hB7
  walk_nrm
  repeat (first
    | refine y_go rfl ?_
    | (refine y_region ?_; simp only [rg, Nat.reduceAdd, List.range, List.range.loop])
    | (refine y_nw rfl (by rfl) rfl (by exact nx rfl) (fun dd hS K hK => ?_); go_simp; refine hK _ _ _ ?_; clear hK K hS dd; simp only [recOf]; try walk_nrm)
    | (refine y_unwanted rfl (by rfl) ?_; try walk_nrm) | refine y_condT rfl ?_ | refine y_condF rfl ?_
    | refine y_block ?_ | refine y_label ?_ | refine y_ret ?_ | refine y_end ?_)
  refine y_callR rfl (by rfl) rfl rfl Try.func84 (by kernel_rfl) (by kernel_rfl) (lock_free0 hH7.out s1.out i1.out t1.out q1.out) (by simp only [List.map_toArray, List.map_cons, List.map_nil] <;> rfl) ?_
  rintro _ σ'' w8 ⟨rfl, e2, x8, hH8⟩
  rw [e2]
  clear e2 σ''
  have i1' := (x8.old l1 t1.out).trans i1.out
  have hB8 : Bigger w w8 := ⟨by rw [x8.size]; exact hB7.out.size, fun b hb => (x8.old b fun h => by have := hlS.out b h; omega).trans (hB7.out.old b hb)⟩
  have p1 : setAt m7 c1 1 c1 = 1 := setAt_same _ _ _
  generalize setAt m7 c1 1 = m8 at hH8 p1
  clear hH7 q1 i1 hB7 x8
  replace hH8 := Keep.mk hH8
  replace p1 := Keep.mk p1
  replace i1' := Keep.mk i1'
  replace hB8 := Keep.mk hB8
  walk_nrm
  repeat (first
    | refine y_go rfl ?_
    | (refine y_region ?_; simp only [rg, Nat.reduceAdd, List.range, List.range.loop])
    | (refine y_nw rfl (by rfl) rfl (by exact nx rfl) (fun dd hS K hK => ?_); go_simp; refine hK _ _ _ ?_; clear hK K hS dd; simp only [recOf]; try walk_nrm)
    | (refine y_unwanted rfl (by rfl) ?_; try walk_nrm) | refine y_condT rfl ?_ | refine y_condF rfl ?_
    | refine y_block ?_ | refine y_label ?_ | refine y_ret ?_ | refine y_end ?_)
  refine y_callR rfl (by rfl) rfl rfl Try.func83 (by kernel_rfl) (by kernel_rfl) (try_free hH8.out s1.out i1'.out t1.out p1.out) (by simp only [List.map_toArray, List.map_cons, List.map_nil] <;> rfl) ?_
  rintro _ σ'' w9 ⟨rfl, e2, x9, hH9⟩
  rw [e2]
  clear e2 σ''
  have i1 := (x9.old l1 t1.out).trans i1'.out
  have hB9 : Bigger w w9 := ⟨by rw [x9.size]; exact hB8.out.size, fun b hb => (x9.old b fun h => by have := hlS.out b h; omega).trans (hB8.out.old b hb)⟩
  have q1 : setAt m8 c1 (if (1 : Int) = 0 then 1 else 1) c1 = 1 := setAt_same _ _ _
  generalize setAt m8 c1 (if (1 : Int) = 0 then 1 else 1) = m9 at hH9 q1
  have ef : decide ((1 : Int) = 0) = false := by decide
  rw [ef]
  clear hH8 p1 i1' hB8 x9 ef
  replace hH9 := Keep.mk hH9
  replace q1 := Keep.mk q1
  replace i1 := Keep.mk i1
  replace hB9 := Keep.mk hB9
  walk_nrm
  repeat (first
    | refine y_go rfl ?_
    | (refine y_region ?_; simp only [rg, Nat.reduceAdd, List.range, List.range.loop])
    | (refine y_nw rfl (by rfl) rfl (by exact nx rfl) (fun dd hS K hK => ?_); go_simp; refine hK _ _ _ ?_; clear hK K hS dd; simp only [recOf]; try walk_nrm)
    | (refine y_unwanted rfl (by rfl) ?_; try walk_nrm) | refine y_condT rfl ?_ | refine y_condF rfl ?_
    | refine y_block ?_ | refine y_label ?_ | refine y_ret ?_ | refine y_end ?_)
  refine y_callR rfl (by rfl) rfl rfl Try.func85 (by kernel_rfl) (by kernel_rfl) (unlock_free hH9.out s1.out i1.out t1.out q1.out) (by simp only [List.map_toArray, List.map_cons, List.map_nil] <;> rfl) ?_
  rintro _ σ'' w10 ⟨rfl, e2, x10, hH10⟩
  rw [e2]
  clear e2 σ''
  have i1' := (x10.old l1 t1.out).trans i1.out
  have hB10 : Bigger w w10 := ⟨by rw [x10.size]; exact hB9.out.size, fun b hb => (x10.old b fun h => by have := hlS.out b h; omega).trans (hB9.out.old b hb)⟩
  have p1 : setAt m9 c1 0 c1 = 0 := setAt_same _ _ _
  generalize setAt m9 c1 0 = m10 at hH10 p1
  have ef : (if (1 : Int) = 0 then (11 : Int) else 0) = 0 := by decide
  rw [ef]
  clear hH9 q1 i1 hB9 x10 ef
  replace hH10 := Keep.mk hH10
  replace p1 := Keep.mk p1
  replace i1' := Keep.mk i1'
  replace hB10 := Keep.mk hB10
  walk_nrm
  repeat (first
    | refine y_go rfl ?_
    | (refine y_region ?_; simp only [rg, Nat.reduceAdd, List.range, List.range.loop])
    | (refine y_nw rfl (by rfl) rfl (by exact nx rfl) (fun dd hS K hK => ?_); go_simp; refine hK _ _ _ ?_; clear hK K hS dd; simp only [recOf]; try walk_nrm)
    | (refine y_unwanted rfl (by rfl) ?_; try walk_nrm) | refine y_condT rfl ?_ | refine y_condF rfl ?_
    | refine y_block ?_ | refine y_label ?_ | refine y_ret ?_ | refine y_end ?_)
  refine y_callR rfl (by rfl) rfl rfl Try.func83 (by kernel_rfl) (by kernel_rfl) (try_free hH10.out s1.out i1'.out t1.out p1.out) (by simp only [List.map_toArray, List.map_cons, List.map_nil] <;> rfl) ?_
  rintro _ σ'' w11 ⟨rfl, e2, x11, hH11⟩
  rw [e2]
  clear e2 σ''
  have hB11 : Bigger w w11 := ⟨by rw [x11.size]; exact hB10.out.size, fun b hb => (x11.old b fun h => by have := hlS.out b h; omega).trans (hB10.out.old b hb)⟩
  have ef : decide ((0 : Int) = 0) = true := by decide
  rw [ef]
  clear hH10 p1 i1' hB10 x11 ef hH11
  replace hB11 := Keep.mk hB11
  walk_nrm
  repeat (first
    | refine y_go rfl ?_
    | (refine y_region ?_; simp only [rg, Nat.reduceAdd, List.range, List.range.loop])
    | (refine y_nw rfl (by rfl) rfl (by exact nx rfl) (fun dd hS K hK => ?_); go_simp; refine hK _ _ _ ?_; clear hK K hS dd; simp only [recOf]; try walk_nrm)
    | (refine y_unwanted rfl (by rfl) ?_; try walk_nrm) | refine y_condT rfl ?_ | refine y_condF rfl ?_
    | refine y_block ?_ | refine y_label ?_ | refine y_ret ?_ | refine y_end ?_)
  refine y_leave rfl rfl Try.func79 (resultsC_tmp rfl _) ?_
  exact H.out _ _ _ ⟨rfl, rfl, hB11.out⟩
end
end Go.Proofs.Ytcibnfjpagmdaaa
