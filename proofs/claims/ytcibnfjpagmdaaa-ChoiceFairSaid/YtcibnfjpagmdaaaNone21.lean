/- ChoiceNone. -/
import Derived.Test.YtcibnfjpagmdaaaWorks21
import Derived.Test.YtcibnfjpagmdaaaTop
set_option linter.unusedSimpArgs false
set_option linter.unusedVariables false
set_option maxRecDepth 100000
set_option maxHeartbeats 4000000
namespace Go.Proofs.Ytcibnfjpagmdaaa
open Go.TX Go.Conc Go.RowKit Go.MapKept
variable {J : Judge Try.prog} {σ : Cfg} {w : World}

theorem at21 (k : Int) (n : Nat) (hn : 0 < n) (hn2 : n < 2 ^ 62) : CallsX J 43 #[.int .i64 k, .int .i64 n] σ w fun r σ' w' => (∃ m : Nat, m < n ∧ r = .int .i64 m) ∧ σ' = σ ∧ w' = w := by
  have e0 : ¬ n = 0 := by omega
  have h1 : -(n : Int) < Int.tmod k n := by have := Int.lt_tmod_of_pos k (b := (n : Int)) (by omega); omega
  have h2 : Int.tmod k n < n := Int.tmod_lt_of_pos k (by omega)
  generalize hy : Int.tmod k n = y at h1 h2
  refine callsX_body Try.func43 rfl fun c cs H HN => ?_
  simp only [Try.f43, Try.ntmps43, List.size_toArray, List.length_cons, List.length_nil, Nat.reduceAdd, Nat.reduceSub, Nat.zero_add, Array.replicate_succ, Array.replicate_zero, List.push_toArray, List.append_toArray, List.nil_append, List.cons_append, List.append_nil]
  by_cases e : y < 0
  · have e2 : IntKind.i64.wrap (y + (n : Int)) = y + (n : Int) := wrap_small (by omega) (by omega)
    repeat (first
      | refine y_seq ?_
      | (refine y_region ?_; simp only [List.size_toArray, List.length_cons, List.length_nil, Nat.reduceAdd, Nat.zero_add, List.range, List.range.loop])
      | refine y_regionEnd ?_
      | (refine y_nw rfl (by rfl) rfl (by first | exact nx_of rfl | exact nx_nil rfl rfl | exact nx_int rfl rfl rfl) (fun dd hS K hK => ?_); go_simp; refine hK _ _ _ ?_; clear hK K hS dd; simp only [recOf]; try walk_nrm)
      | (refine y_unwanted rfl (by rfl) ?_; try walk_nrm)
      | (refine y_cond true rfl ?_; simp only [if_true])
      | (refine y_cond false rfl ?_; simp only [Bool.false_eq_true, if_false])
      | refine y_skip ?_ | refine y_block ?_ | refine y_inBlock ?_ | refine y_label ?_ | refine y_exit rfl ?_ | refine y_ret ?_ | refine y_end ?_ | refine y_scope ?_ | refine y_inScope ?_)
    refine y_leave rfl rfl Try.func43 (resultsC_tmp rfl _) ?_
    exact H _ _ _ ⟨⟨(y + n).toNat, by omega, by show Value.int .i64 _ = _; congr 1; omega⟩, rfl, rfl⟩
  · repeat (first
      | refine y_seq ?_
      | (refine y_region ?_; simp only [List.size_toArray, List.length_cons, List.length_nil, Nat.reduceAdd, Nat.zero_add, List.range, List.range.loop])
      | refine y_regionEnd ?_
      | (refine y_nw rfl (by rfl) rfl (by first | exact nx_of rfl | exact nx_nil rfl rfl | exact nx_int rfl rfl rfl) (fun dd hS K hK => ?_); go_simp; refine hK _ _ _ ?_; clear hK K hS dd; simp only [recOf]; try walk_nrm)
      | (refine y_unwanted rfl (by rfl) ?_; try walk_nrm)
      | (refine y_cond true rfl ?_; simp only [if_true])
      | (refine y_cond false rfl ?_; simp only [Bool.false_eq_true, if_false])
      | refine y_skip ?_ | refine y_block ?_ | refine y_inBlock ?_ | refine y_label ?_ | refine y_exit rfl ?_ | refine y_ret ?_ | refine y_end ?_ | refine y_scope ?_ | refine y_inScope ?_)
    refine y_leave rfl rfl Try.func43 (resultsC_tmp rfl _) ?_
    exact H _ _ _ ⟨⟨y.toNat, by omega, by show Value.int .i64 _ = _; congr 1; omega⟩, rfl, rfl⟩

/-- A list of cases as cells. -/
def flat3 : List (Value × Bool × Int) → List Value
  | [] => []
  | c :: cs => c.1 :: .bool c.2.1 :: .int .i64 c.2.2 :: flat3 cs
theorem flat3_len : ∀ cs, (flat3 cs).length = cs.length * 3
  | [] => rfl
  | c :: cs => by simp only [flat3, List.length_cons, flat3_len cs]; omega
theorem flat3_app : ∀ cs ds, flat3 (cs ++ ds) = flat3 cs ++ flat3 ds
  | [], _ => rfl
  | c :: cs, ds => by simp [flat3, flat3_app cs ds]
theorem flat3_get : ∀ (cs : List (Value × Bool × Int)) (x : Nat) c, cs[x]? = some c → (flat3 cs)[x * 3]? = some c.1 ∧ (flat3 cs)[x * 3 + 1]? = some (.bool c.2.1) ∧ (flat3 cs)[x * 3 + 2]? = some (.int .i64 c.2.2)
  | c :: cs, 0, d, h => by simp at h; subst h; exact ⟨rfl, rfl, rfl⟩
  | c :: cs, x + 1, d, h => by
    obtain ⟨h1, h2, h3⟩ := flat3_get cs x d (by simpa using h)
    simp only [flat3]
    rw [show (x + 1) * 3 = x * 3 + 1 + 1 + 1 by omega]
    exact ⟨by simpa using h1, by simpa using h2, by simpa using h3⟩
theorem cases_of_row {base : Nat} {sv : Value} {cs : List (Value × Bool × Int)} (h : w.ownsRow base 92 3 sv cs.length (flat3 cs)) (hn : 0 < cs.length) : ∃ l cap, sv = .slice (some ⟨l, 0, none⟩) cs.length cap ∧ base ≤ l ∧ Cases w l cap cs ∧ ∃ cur, w.heap[l]? = some (.cells cur 92) := by
  rcases h.2 with ⟨_, h0⟩ | ⟨l, cap, cur, rfl, hl, hcur, hle, hmax, hsz, htake⟩
  · omega
  have hg : ∀ i v, (flat3 cs)[i]? = some v → w.cell? ⟨l, i, none⟩ = some v := fun i v hv => by
    have hi : i < cs.length * 3 := by have := (List.getElem?_eq_some_iff.1 hv).1; rw [flat3_len] at this; exact this
    unfold World.cell?; rw [hcur]
    rw [← htake, List.getElem?_take_of_lt hi, Array.getElem?_toList] at hv
    exact hv
  exact ⟨l, cap, rfl, hl, ⟨fun x c hc => hg _ _ (flat3_get cs x c hc).1, fun x c hc => hg _ _ (flat3_get cs x c hc).2.1, fun x c hc => hg _ _ (flat3_get cs x c hc).2.2⟩, cur, hcur⟩

/-- Whatever is no row of cases stands. -/
def KeepT (w w' : World) : Prop := w.heap.size ≤ w'.heap.size ∧ ∀ (k : Nat) (c : Array Value) (e : TypeId) (fz : Nat × Nat), w.heap[k]? = some (Obj.cells c e fz) → e ≠ 92 → w'.heap[k]? = w.heap[k]?
theorem KeepT.refl (w : World) : KeepT w w := ⟨Nat.le_refl _, fun _ _ _ _ _ _ => rfl⟩
theorem KeepT.trans {a b c : World} (h : KeepT a b) (g : KeepT b c) : KeepT a c := ⟨Nat.le_trans h.1 g.1, fun k x e fz hk he => (g.2 k x e fz ((h.2 k x e fz hk he).trans hk) he).trans (h.2 k x e fz hk he)⟩
theorem Grew.keepT {w' : World} (g : Grew w w') : KeepT w w' := ⟨g.size, fun k _ _ _ h _ => g.old k (lt_of_get h)⟩
theorem KeepT.cell {w' : World} (h : KeepT w w') {b : Nat} {v : Int} (hc : CellIs w b v) : CellIs w' b v := hc.later (h.2 _ _ _ _ hc (by decide))
theorem KeepT.ch {w' : World} (h : KeepT w w') {ch bell tk : Nat} {k : Int} (hc : ChIs w ch bell tk k) : ChIs w' ch bell tk k := ⟨(h.2 _ _ _ _ hc.obj (by decide)).trans hc.obj, h.cell hc.tick⟩
/-- A pipe of that bell. -/
def PB (w : World) (v : Value) (bell : Nat) : Prop := ∃ p x y z d, v = .pointer (some ⟨p, 0, none⟩) ∧ w.heap[p]? = some (.cells #[.pointer (some x), y, .pointer (some ⟨bell, 0, none⟩), z] 95) ∧ CellIs w bell d
theorem KeepT.pb {w' : World} (h : KeepT w w') {v : Value} {bell : Nat} (hp : PB w v bell) : PB w' v bell := by
  obtain ⟨p, x, y, z, d, rfl, h1, h2⟩ := hp
  exact ⟨p, x, y, z, d, rfl, (h.2 _ _ _ _ h1 (by decide)).trans h1, h.cell h2⟩
theorem PB.bell {v : Value} {bell : Nat} (h : PB w v bell) : BellIs w v (some bell) := by
  obtain ⟨p, x, y, z, d, rfl, h1, h2⟩ := h
  exact .made p x bell d (by unfold World.cell?; rw [h1]; rfl) (by unfold World.cell?; rw [h1]; rfl) h2
theorem Made.pb {w0 wx : World} {p bell n : Nat} {c : Nat → Nat} {sv : Value} {d : Int} (M : Made w0 wx w p (some ⟨bell, 0, none⟩) c n sv) (hb : CellIs w bell d) : PB w (.pointer (some ⟨p, 0, none⟩)) bell := ⟨p, _, _, _, d, rfl, M.hp, hb⟩
theorem grownBy_keepT {w' : World} {base : Nat} {sv : Value} {n : Nat} {xs : List Value} (h : w.ownsRow base 92 3 sv n xs) (g : w.grownBy w' sv.ownBlock) : KeepT w w' := by
  refine ⟨g.size, fun k c e fz hk he => g.block k (lt_of_get hk) fun e2 => ?_⟩
  obtain ⟨_, _, cur, h2⟩ := row_ty h e2.symm
  rw [hk] at h2
  simp at h2
  exact he h2.2.1

/-- A list of cases, whatever it is, that a choice of this bell refuses with that code. -/
inductive RefSet (w : World) (bell : Nat) : Value → Int → Prop
  | empty : RefSet w bell (.slice none 0 0) 25
  | list (l cap n : Nat) (cs : List (Value × Bool × Int)) (bs : List (Option Nat)) (hl : Cases w l cap cs) (hn : cs.length = n) (h0 : 0 < n) (h6 : n < 6) (hb : bs.length = n) (hB : ∀ (x : Nat) (c : Value × Bool × Int) d, cs[x]? = some c → bs[x]? = some d → BellIs w c.1 d) (hc : ¬ refCode bell bs = 0) : RefSet w bell (.slice (some ⟨l, 0, none⟩) n cap) (refCode bell bs)
theorem RefSet.grew {w' : World} {bell : Nat} {lv : Value} {c : Int} (h : RefSet w bell lv c) (g : Grew w w') : RefSet w' bell lv c := by
  cases h with
  | empty => exact .empty
  | list l cap n cs bs hl hn h0 h6 hb hB hc => exact .list l cap n cs bs (hl.grew g) hn h0 h6 hb (fun x c d h1 h2 => (hB x c d h1 h2).grew g) hc
theorem RefSet.ne {bell : Nat} {lv : Value} {c : Int} (h : RefSet w bell lv c) : ¬ c = 0 := by
  cases h with
  | empty => decide
  | list l cap n cs bs hl hn h0 h6 hb hB hc => exact hc
theorem RefSet.refused {bell ch tk : Nat} {k d : Int} {lv : Value} {c : Int} (h : RefSet w bell lv c) (C : ChIs w ch bell tk k) (hbell : CellIs w bell d) : CallsX J 142 #[.pointer (some ⟨ch, 0, none⟩), lv] σ w fun r σ' w' => r = .int .i64 c ∧ σ' = σ ∧ Grew w w' := by
  cases h with
  | empty => exact (refused_empty ch _ C.c0).mono fun r σ' w' ⟨h1, h2, h3⟩ => ⟨h1, h2, h3 ▸ Grew.refl w⟩
  | list l cap n cs bs hl hn h0 h6 hb hB hc =>
    have := refused_list (J := J) (σ := σ) ch l cap bell cs bs C.c0 hbell hl (by omega) (by omega) (by omega) hB
    rw [hn] at this
    exact this

theorem setO_keepT {w' : World} {l : Nat} {cur : Array Value} {o : Obj} (h : w.heap[l]? = some (.cells cur 92)) (S : SetO w w' l o) : KeepT w w' := by
  refine ⟨Nat.le_of_eq S.size.symm, fun k c e fz hk he => S.other k fun e2 => ?_⟩
  subst e2
  rw [h] at hk
  simp at hk
  exact he hk.2.1.symm
/-- One case's pipe is laid anew. -/
theorem Cases.put {w' : World} {l cap y : Nat} {cs : List (Value × Bool × Int)} {cur : Array Value} {pv : Value} (h : Cases w l cap cs) (hcur : w.heap[l]? = some (.cells cur 92)) (S : SetO w w' l (.cells (cur.setIfInBounds (y * 3) pv) 92)) {c : Value × Bool × Int} (hc : cs[y]? = some c) :
    Cases w' l cap (cs.set y (pv, c.2)) := by
  have hy : y < cs.length := (List.getElem?_eq_some_iff.1 hc).1
  have get : ∀ i u, w.cell? ⟨l, i, none⟩ = some u → i ≠ y * 3 → w'.cell? ⟨l, i, none⟩ = some u := fun i u hu hi => by
    unfold World.cell? at hu ⊢
    rw [hcur] at hu
    rw [S.is]
    have hu : cur[i]? = some u := hu
    show (cur.setIfInBounds (y * 3) pv)[i]? = some u
    rw [Array.getElem?_setIfInBounds_ne (fun e => hi e.symm)]; exact hu
  have at0 : w'.cell? ⟨l, y * 3, none⟩ = some pv := by
    have hu := h.pipe y c hc
    unfold World.cell? at hu ⊢
    rw [hcur] at hu
    rw [S.is]
    have hu : cur[y * 3]? = some c.1 := hu
    show (cur.setIfInBounds (y * 3) pv)[y * 3]? = some pv
    exact Array.getElem?_setIfInBounds_self_of_lt (Array.getElem?_eq_some_iff.1 hu).1
  have key : ∀ (x : Nat) d, (cs.set y (pv, c.2))[x]? = some d → (x = y ∧ d = (pv, c.2)) ∨ (x ≠ y ∧ cs[x]? = some d) := fun x d hd => by
    by_cases e : x = y
    · subst e; rw [List.getElem?_set_self hy] at hd; cases hd; exact .inl ⟨rfl, rfl⟩
    · rw [List.getElem?_set_ne (fun h => e h.symm)] at hd; exact .inr ⟨e, hd⟩
  refine ⟨fun x d hd => ?_, fun x d hd => ?_, fun x d hd => ?_⟩
  · rcases key x d hd with ⟨rfl, rfl⟩ | ⟨hne, hd⟩
    · exact at0
    · exact get _ _ (h.pipe x d hd) (by omega)
  · rcases key x d hd with ⟨rfl, rfl⟩ | ⟨hne, hd⟩
    · exact get _ _ (h.send x c hc) (by omega)
    · exact get _ _ (h.send x d hd) (by omega)
  · rcases key x d hd with ⟨rfl, rfl⟩ | ⟨hne, hd⟩
    · exact get _ _ (h.val x c hc) (by omega)
    · exact get _ _ (h.val x d hd) (by omega)

theorem refset_put {w' : World} {l cap y bell : Nat} {cs : List (Value × Bool × Int)} {cur : Array Value} {pv : Value} {d : Option Nat} (h : Cases w l cap cs) (hcur : w.heap[l]? = some (.cells cur 92)) (S : SetO w w' l (.cells (cur.setIfInBounds (y * 3) pv) 92)) (hy : y < cs.length) (h6 : cs.length < 6)
    (hpb : ∀ (x : Nat) (c : Value × Bool × Int), cs[x]? = some c → PB w c.1 bell) (hB : BellIs w' pv d) (hd : d ≠ some bell) : RefSet w' bell (.slice (some ⟨l, 0, none⟩) cs.length cap) (if d = none then 2 else 1) := by
  obtain ⟨c, hc⟩ : ∃ c, cs[y]? = some c := ⟨_, List.getElem?_eq_getElem hy⟩
  have kt := setO_keepT hcur S
  have hmem : d ∈ (List.replicate cs.length (some bell)).set y d := List.mem_iff_getElem?.2 ⟨y, by rw [List.getElem?_set_self (by simpa using hy)]⟩
  have hcode : refCode bell ((List.replicate cs.length (some bell)).set y d) = if d = none then 2 else 1 := by
    unfold refCode
    by_cases e : d = none
    · subst e; rw [if_pos hmem]; rfl
    · have h1 : none ∉ (List.replicate cs.length (some bell)).set y d := fun hm => by
        rcases List.mem_or_eq_of_mem_set hm with h | h
        · simp [List.mem_replicate] at h
        · exact e h.symm
      have h2 : ¬ (List.replicate cs.length (some bell)).set y d = [] := fun hm => by rw [hm] at hmem; cases hmem
      rw [if_neg h1, if_neg h2, if_pos ⟨d, hmem, hd⟩, if_neg e]
  rw [← hcode]
  refine .list l cap cs.length (cs.set y (pv, c.2)) _ (h.put hcur S hc) (by simp) (by omega) h6 (by simp) (fun x c' d' h1 h2 => ?_) (by rw [hcode]; split <;> decide)
  by_cases e : x = y
  · subst e
    rw [List.getElem?_set_self hy] at h1
    rw [List.getElem?_set_self (by simpa using hy)] at h2
    cases h1; cases h2
    exact hB
  · rw [List.getElem?_set_ne (fun h => e h.symm)] at h1 h2
    rw [List.getElem?_replicate] at h2
    split at h2
    · cases h2; exact (kt.pb (hpb x c' h1)).bell
    · cases h2

theorem choiceNone (v many bad : Int) (hs : σ.seat = fun _ => none) : TopX J 6 #[.int .i64 v, .int .i64 many, .int .i64 bad] σ w fun r σ' w' => r = .bool true ∧ σ' = σ ∧ Grew w w' := by
  have hf : ∀ b, σ.Free (· = b) := fun b => free_noseat hs
  refine topX_body Try.func6 rfl fun cs H => ?_
  simp only [Try.f6, Try.ntmps6, List.size_toArray, List.length_cons, List.length_nil, Nat.reduceAdd, Nat.reduceSub, Nat.zero_add, Array.replicate_succ, Array.replicate_zero, List.push_toArray, List.append_toArray, List.nil_append, List.cons_append, List.append_nil]
  replace H := Keep.mk H
  replace hf := Keep.mk hf
  replace hs := Keep.mk hs
  repeat (first
    | refine y_seq ?_
    | (refine y_region ?_; simp only [List.size_toArray, List.length_cons, List.length_nil, Nat.reduceAdd, Nat.zero_add, List.range, List.range.loop])
    | refine y_regionEnd ?_
    | (refine y_nw rfl (by rfl) rfl (by first | exact nx_of rfl | exact nx_nil rfl rfl | exact nx_int rfl rfl rfl) (fun dd hS K hK => ?_); go_simp; refine hK _ _ _ ?_; clear hK K hS dd; simp only [recOf]; try walk_nrm)
    | (refine y_unwanted rfl (by rfl) ?_; try walk_nrm)
    | (refine y_cond true rfl ?_; simp only [if_true])
    | (refine y_cond false rfl ?_; simp only [Bool.false_eq_true, if_false])
    | refine y_skip ?_ | refine y_block ?_ | refine y_inBlock ?_ | refine y_label ?_ | refine y_exit rfl ?_ | refine y_ret ?_ | refine y_end ?_ | refine y_scope ?_ | refine y_inScope ?_)
  refine y_callR rfl (by rfl) rfl rfl Try.func43 (by kernel_rfl) (by kernel_rfl) (at21 many 6 (by decide) (by decide)) (by simp only [List.map_toArray, List.map_cons, List.map_nil] <;> rfl) ?_
  rintro r σ'' w'' ⟨⟨m, hm, rfl⟩, e2, e3⟩
  rw [e2, e3]; clear e2 e3 σ'' w''
  walk_nrm
  repeat (first
    | refine y_seq ?_
    | (refine y_region ?_; simp only [List.size_toArray, List.length_cons, List.length_nil, Nat.reduceAdd, Nat.zero_add, List.range, List.range.loop])
    | refine y_regionEnd ?_
    | (refine y_nw rfl (by rfl) rfl (by first | exact nx_of rfl | exact nx_nil rfl rfl | exact nx_int rfl rfl rfl) (fun dd hS K hK => ?_); go_simp; refine hK _ _ _ ?_; clear hK K hS dd; simp only [recOf]; try walk_nrm)
    | (refine y_unwanted rfl (by rfl) ?_; try walk_nrm)
    | (refine y_cond true rfl ?_; simp only [if_true])
    | (refine y_cond false rfl ?_; simp only [Bool.false_eq_true, if_false])
    | refine y_skip ?_ | refine y_block ?_ | refine y_inBlock ?_ | refine y_label ?_ | refine y_exit rfl ?_ | refine y_ret ?_ | refine y_end ?_ | refine y_scope ?_ | refine y_inScope ?_)
  refine y_callR rfl (by rfl) rfl rfl Try.func26 (by kernel_rfl) (by kernel_rfl) (new1 0) (by simp only [List.map_toArray, List.map_cons, List.map_nil] <;> rfl) ?_
  rintro _ σ'' w1 ⟨rfl, e2, N1⟩
  rw [e2]
  clear e2 σ''
  walk_nrm
  have z1 := N1.size
  replace N1 := Keep.mk N1
  replace z1 := Keep.mk z1
  repeat (first
    | refine y_seq ?_
    | (refine y_region ?_; simp only [List.size_toArray, List.length_cons, List.length_nil, Nat.reduceAdd, Nat.zero_add, List.range, List.range.loop])
    | refine y_regionEnd ?_
    | (refine y_nw rfl (by rfl) rfl (by first | exact nx_of rfl | exact nx_nil rfl rfl | exact nx_int rfl rfl rfl) (fun dd hS K hK => ?_); go_simp; refine hK _ _ _ ?_; clear hK K hS dd; simp only [recOf]; try walk_nrm)
    | (refine y_unwanted rfl (by rfl) ?_; try walk_nrm)
    | (refine y_cond true rfl ?_; simp only [if_true])
    | (refine y_cond false rfl ?_; simp only [Bool.false_eq_true, if_false])
    | refine y_skip ?_ | refine y_block ?_ | refine y_inBlock ?_ | refine y_label ?_ | refine y_exit rfl ?_ | refine y_ret ?_ | refine y_end ?_ | refine y_scope ?_ | refine y_inScope ?_)
  refine y_callR rfl (by rfl) rfl rfl Try.func44 (by kernel_rfl) (by kernel_rfl) (choice_new w.heap.size) (by simp only [List.map_toArray, List.map_cons, List.map_nil] <;> rfl) ?_
  rintro r σ'' w2 ⟨rfl, e2, C, g2, z2⟩
  rw [e2]; clear e2 σ''
  replace z1 := Keep.out z1
  rw [z1] at C z2 ⊢
  replace C := Keep.mk C
  replace g2 := Keep.mk g2
  replace z2 := Keep.mk z2
  replace z1 := Keep.mk z1
  walk_nrm
  repeat (first
    | refine y_seq ?_
    | (refine y_region ?_; simp only [List.size_toArray, List.length_cons, List.length_nil, Nat.reduceAdd, Nat.zero_add, List.range, List.range.loop])
    | refine y_regionEnd ?_
    | (refine y_nw rfl (by rfl) rfl (by first | exact nx_of rfl | exact nx_nil rfl rfl | exact nx_int rfl rfl rfl) (fun dd hS K hK => ?_); go_simp; refine hK _ _ _ ?_; clear hK K hS dd; simp only [recOf]; try walk_nrm)
    | (refine y_unwanted rfl (by rfl) ?_; try walk_nrm)
    | (refine y_cond true rfl ?_; simp only [if_true])
    | (refine y_cond false rfl ?_; simp only [Bool.false_eq_true, if_false])
    | refine y_skip ?_ | refine y_block ?_ | refine y_inBlock ?_ | refine y_label ?_ | refine y_exit rfl ?_ | refine y_ret ?_ | refine y_end ?_ | refine y_scope ?_ | refine y_inScope ?_)
  refine y_callR rfl (by rfl) rfl rfl Try.func44 (by kernel_rfl) (by kernel_rfl) (choice_new_nil) (by simp only [List.map_toArray, List.map_cons, List.map_nil] <;> rfl) ?_
  rintro _ σ'' w'' ⟨rfl, e2, e3⟩
  rw [e2, e3]
  clear e2 e3 w'' σ''
  walk_nrm
  repeat (first
    | refine y_seq ?_
    | (refine y_region ?_; simp only [List.size_toArray, List.length_cons, List.length_nil, Nat.reduceAdd, Nat.zero_add, List.range, List.range.loop])
    | refine y_regionEnd ?_
    | (refine y_nw rfl (by rfl) rfl (by first | exact nx_of rfl | exact nx_nil rfl rfl | exact nx_int rfl rfl rfl) (fun dd hS K hK => ?_); go_simp; refine hK _ _ _ ?_; clear hK K hS dd; simp only [recOf]; try walk_nrm)
    | (refine y_unwanted rfl (by rfl) ?_; try walk_nrm)
    | (refine y_cond true rfl ?_; simp only [if_true])
    | (refine y_cond false rfl ?_; simp only [Bool.false_eq_true, if_false])
    | refine y_skip ?_ | refine y_block ?_ | refine y_inBlock ?_ | refine y_label ?_ | refine y_exit rfl ?_ | refine y_ret ?_ | refine y_end ?_ | refine y_scope ?_ | refine y_inScope ?_)
  replace N1 := Keep.out N1
  replace C := Keep.out C
  replace g2 := Keep.out g2
  replace z1 := Keep.out z1
  replace z2 := Keep.out z2
  have g02 : Grew w w2 := ((Grew.refl w).trans ⟨by omega, N1.old⟩).trans g2
  have b2 : CellIs w2 w.heap.size 0 := N1.is.later (g2.old _ N1.is.lt)
  have e6 : (m : Int) < 6 := by omega
  replace N1 := Keep.mk N1
  replace g2 := Keep.mk g2
  replace z1 := Keep.mk z1
  replace z2 := Keep.mk z2
  replace g02 := Keep.mk g02
  replace C := Keep.mk C
  replace b2 := Keep.mk b2
  replace e6 := Keep.mk e6
  refine y_loopI (fun r a σ' w' => σ' = σ ∧ ∃ (cs : List (Value × Bool × Int)) (sv : Value), r = m - cs.length ∧ cs.length ≤ m ∧ KeepT w2 w' ∧ (∀ k, k < w.heap.size → w'.heap[k]? = w.heap[k]?) ∧ w'.ownsRow w.heap.size 92 3 sv cs.length (flat3 cs) ∧ (cs.length = 0 → sv = .slice none 0 0) ∧ (∀ (x : Nat) (c : Value × Bool × Int), cs[x]? = some c → PB w' c.1 w.heap.size) ∧
      Tm a 184 [(0, .int .i64 v), (1, .int .i64 m), (2, .int .i64 bad), (6, .bool false), (7, .pointer (some ⟨w.heap.size, 0, none⟩)), (8, .pointer (some ⟨w.heap.size + 1 + 1, 0, none⟩)), (9, sv), (10, .int .i64 (cs.length : Int))]) m
    ⟨rfl, [], .slice none 0 0, by simp, by simp, KeepT.refl w2, g02.out.old, World.ownsRow_nil _ _ _ _, fun _ => rfl, fun x c h => by simp at h, ⟨rfl, rfl, rfl, rfl, rfl, rfl, rfl, rfl, rfl, rfl, trivial⟩⟩ ?_
  rintro r IH a σ w3 ⟨rfl, cs, sv, hr, hcs, kt, hold, own, hnil, hpb, hT⟩
  obtain ⟨j, rfl, h0', h1', h2', h3', h4', h5', h6', h7', -⟩ := Tm.lit hT
  simp only at h0' h1' h2' h3' h4' h5' h6' h7'
  simp only [List.range, List.range.loop, List.map_cons, List.map_nil, h0', h1', h2', h3', h4', h5', h6', h7']
  clear h0' h1' h2' h3' h4' h5' h6' h7' hT
  by_cases e : cs.length < m
  · have e1 : (cs.length : Int) < m := by omega
    replace IH := Keep.mk IH
    replace kt := Keep.mk kt
    replace hold := Keep.mk hold
    replace own := Keep.mk own
    replace hpb := Keep.mk hpb
    replace hnil := Keep.mk hnil
    repeat (first
      | refine y_seq ?_
      | (refine y_region ?_; simp only [List.size_toArray, List.length_cons, List.length_nil, Nat.reduceAdd, Nat.zero_add, List.range, List.range.loop])
      | refine y_regionEnd ?_
      | (refine y_nw rfl (by rfl) rfl (by first | exact nx_of rfl | exact nx_nil rfl rfl | exact nx_int rfl rfl rfl) (fun dd hS K hK => ?_); go_simp; refine hK _ _ _ ?_; clear hK K hS dd; simp only [recOf]; try walk_nrm)
      | (refine y_unwanted rfl (by rfl) ?_; try walk_nrm)
      | (refine y_cond true rfl ?_; simp only [if_true])
      | (refine y_cond false rfl ?_; simp only [Bool.false_eq_true, if_false])
      | refine y_skip ?_ | refine y_block ?_ | refine y_inBlock ?_ | refine y_label ?_ | refine y_exit rfl ?_ | refine y_ret ?_ | refine y_end ?_ | refine y_scope ?_ | refine y_inScope ?_)
    refine y_callR rfl (by rfl) rfl rfl Try.func45 (by kernel_rfl) (by kernel_rfl) (pipe_new_bell 2 ⟨w.heap.size, 0, none⟩ (by decide) (by decide) pow2_2.self) (by simp only [List.map_toArray, List.map_cons, List.map_nil] <;> rfl) ?_
    rintro r σ'' w4 ⟨e2, p, c1, sv1, rfl, M⟩
    rw [e2]; clear e2 σ''
    replace kt := Keep.out kt
    replace own := Keep.out own
    replace hpb := Keep.out hpb
    replace hold := Keep.out hold
    replace b2 := Keep.out b2
    have g34 : Grew w3 w4 := ⟨M.size, M.old⟩
    have b4 : CellIs w4 w.heap.size 0 := (kt.cell b2).later (g34.old _ (kt.cell b2).lt)
    have pb4 := M.pb b4
    have own4 := row_later own fun k hk => g34.old k (row_ty own hk).2.1
    have kt4 := kt.trans g34.keepT
    have hpb4 : ∀ (x : Nat) (c : Value × Bool × Int), cs[x]? = some c → PB w4 c.1 w.heap.size := fun x c h => g34.keepT.pb (hpb x c h)
    have hold4 : ∀ k, k < w.heap.size → w4.heap[k]? = w.heap[k]? := fun k hk => (g34.old k (by have := kt.1; have := z2.out; omega)).trans (hold k hk)
    clear kt hpb hold
    replace M := Keep.mk M
    replace g34 := Keep.mk g34
    replace b4 := Keep.mk b4
    replace pb4 := Keep.mk pb4
    replace own4 := Keep.mk own4
    replace kt4 := Keep.mk kt4
    replace hpb4 := Keep.mk hpb4
    replace hold4 := Keep.mk hold4
    replace own := Keep.mk own
    replace b2 := Keep.mk b2
    walk_nrm
    repeat (first
      | refine y_seq ?_
      | (refine y_region ?_; simp only [List.size_toArray, List.length_cons, List.length_nil, Nat.reduceAdd, Nat.zero_add, List.range, List.range.loop])
      | refine y_regionEnd ?_
      | (refine y_nw rfl (by rfl) rfl (by first | exact nx_of rfl | exact nx_nil rfl rfl | exact nx_int rfl rfl rfl) (fun dd hS K hK => ?_); go_simp; refine hK _ _ _ ?_; clear hK K hS dd; simp only [recOf]; try walk_nrm)
      | (refine y_unwanted rfl (by rfl) ?_; try walk_nrm)
      | (refine y_cond true rfl ?_; simp only [if_true])
      | (refine y_cond false rfl ?_; simp only [Bool.false_eq_true, if_false])
      | refine y_skip ?_ | refine y_block ?_ | refine y_inBlock ?_ | refine y_label ?_ | refine y_exit rfl ?_ | refine y_ret ?_ | refine y_end ?_ | refine y_scope ?_ | refine y_inScope ?_)
    generalize hsd : (Int.tmod (cs.length : Int) 2 == 0) = sd
    have N5 := newO w4 (.cells #[.pointer (some ⟨p, 0, none⟩), .bool sd, .int .i64 v] 92)
    have n5 := cells_new w4 [.pointer (some ⟨p, 0, none⟩), .bool sd, .int .i64 v] 92
    generalize w4.alloc (.cells #[.pointer (some ⟨p, 0, none⟩), .bool sd, .int .i64 v] 92) = w5 at N5 n5 ⊢
    replace own4 := Keep.out own4
    replace kt4 := Keep.out kt4
    replace hpb4 := Keep.out hpb4
    replace hold4 := Keep.out hold4
    replace pb4 := Keep.out pb4
    replace hf := Keep.out hf
    have g45 : Grew w4 w5 := (Grew.refl w4).newO N5
    have own5 := row_later own4 fun k hk => g45.old k (row_ty own4 hk).2.1
    have hb5 : w.heap.size ≤ w5.heap.size := by have := kt4.1; have := g45.size; have := z2.out; omega
    obtain ⟨i0, hi, hz0, hz1, hz2⟩ := info_parts (P := Try.prog) (e := 92) (z := .agg #[.pointer none, .bool false, .int .i64 0]) (size := 3) (bytes := 24) (by kernel_rfl)
    refine y_append (size := 3) (bytes := 24) rfl (by rfl) rfl rfl Try.underlying86 hi hz0 hz1 hz2 rfl (by decide) w.heap.size rfl own5 rfl rfl n5 (fun x hx => by simp at hx; rcases hx with rfl | rfl | rfl <;> rfl) (by unfold maxLen; omega) (by omega) hb5 (fun i s e => by rw [hs.out] at e; cases e) fun sv' w6 own6 g6 _ _ => ?_
    walk_nrm
    have kt6 : KeepT w5 w6 := grownBy_keepT own5 g6
    have hold6 : ∀ k, k < w.heap.size → w6.heap[k]? = w.heap[k]? := fun k hk => by
      have := kt4.1
      have := z2.out
      rw [g6.block k (by omega) fun e => by have := (row_ty own5 e.symm).1; omega, g45.old k (by omega), hold4 k hk]
    replace own6 := Keep.mk own6
    replace g6 := Keep.mk g6
    replace kt6 := Keep.mk kt6
    replace hold6 := Keep.mk hold6
    replace hf := Keep.mk hf
    replace own5 := Keep.mk own5
    replace g45 := Keep.mk g45
    replace kt4 := Keep.mk kt4
    replace hpb4 := Keep.mk hpb4
    replace hold4 := Keep.mk hold4
    replace pb4 := Keep.mk pb4
    replace hb5 := Keep.mk hb5
    replace own4 := Keep.mk own4
    replace N5 := Keep.mk N5
    replace n5 := Keep.mk n5
    repeat (first
      | refine y_seq ?_
      | (refine y_region ?_; simp only [List.size_toArray, List.length_cons, List.length_nil, Nat.reduceAdd, Nat.zero_add, List.range, List.range.loop])
      | refine y_regionEnd ?_
      | (refine y_nw rfl (by rfl) rfl (by first | exact nx_of rfl | exact nx_nil rfl rfl | exact nx_int rfl rfl rfl) (fun dd hS K hK => ?_); go_simp; refine hK _ _ _ ?_; clear hK K hS dd; simp only [recOf]; try walk_nrm)
      | (refine y_unwanted rfl (by rfl) ?_; try walk_nrm)
      | (refine y_cond true rfl ?_; simp only [if_true])
      | (refine y_cond false rfl ?_; simp only [Bool.false_eq_true, if_false])
      | refine y_skip ?_ | refine y_block ?_ | refine y_inBlock ?_ | refine y_label ?_ | refine y_exit rfl ?_ | refine y_ret ?_ | refine y_end ?_ | refine y_scope ?_ | refine y_inScope ?_)
    replace own6 := Keep.out own6
    replace kt6 := Keep.out kt6
    replace hold6 := Keep.out hold6
    replace g45 := Keep.out g45
    replace kt4 := Keep.out kt4
    replace hpb4 := Keep.out hpb4
    replace pb4 := Keep.out pb4
    replace IH := Keep.out IH
    rw [wrap_small (by omega) (by omega), show (cs.length : Int) + 1 = ((cs ++ [((.pointer (some ⟨p, 0, none⟩) : Value), sd, v)]).length : Int) by simp]
    refine IH _ _ _ _ (by simp; omega) ⟨rfl, cs ++ [(.pointer (some ⟨p, 0, none⟩), sd, v)], sv', rfl, by simp; omega, (kt4.trans g45.keepT).trans kt6, hold6, ?_, fun h => by simp at h, fun x c h => ?_, ⟨rfl, rfl, rfl, rfl, rfl, rfl, rfl, rfl, rfl, rfl, trivial⟩⟩
    · rw [flat3_app, List.length_append]; exact own6
    · by_cases e2 : x < cs.length
      · rw [List.getElem?_append_left e2] at h
        exact (g45.keepT.trans kt6).pb (hpb4 x c h)
      · rw [List.getElem?_append_right (by omega)] at h
        have e3 : x - cs.length = 0 := by
          rcases Nat.eq_zero_or_pos (x - cs.length) with h0 | h0
          · exact h0
          · rw [List.getElem?_eq_none (by simp; omega)] at h; cases h
        rw [e3] at h
        cases h
        exact (g45.keepT.trans kt6).pb pb4
  · have hlen : cs.length = m := by omega
    have e1 : ¬ ((cs.length : Int) < m) := by omega
    clear IH
    replace kt := Keep.mk kt
    replace own := Keep.mk own
    replace hpb := Keep.mk hpb
    replace hold := Keep.mk hold
    replace hlen := Keep.mk hlen
    replace hnil := Keep.mk hnil
    repeat (first
      | refine y_seq ?_
      | (refine y_region ?_; simp only [List.size_toArray, List.length_cons, List.length_nil, Nat.reduceAdd, Nat.zero_add, List.range, List.range.loop])
      | refine y_regionEnd ?_
      | (refine y_nw rfl (by rfl) rfl (by first | exact nx_of rfl | exact nx_nil rfl rfl | exact nx_int rfl rfl rfl) (fun dd hS K hK => ?_); go_simp; refine hK _ _ _ ?_; clear hK K hS dd; simp only [recOf]; try walk_nrm)
      | (refine y_unwanted rfl (by rfl) ?_; try walk_nrm)
      | (refine y_cond true rfl ?_; simp only [if_true])
      | (refine y_cond false rfl ?_; simp only [Bool.false_eq_true, if_false])
      | refine y_skip ?_ | refine y_block ?_ | refine y_inBlock ?_ | refine y_label ?_ | refine y_exit rfl ?_ | refine y_ret ?_ | refine y_end ?_ | refine y_scope ?_ | refine y_inScope ?_)
    refine y_cut (fun a σ' w' => σ' = σ ∧ ∃ lv code, RefSet w' w.heap.size lv code ∧ CellIs w' w.heap.size 0 ∧ ChIs w' (w.heap.size + 1 + 1) w.heap.size (w.heap.size + 1) 0 ∧ (∀ k, k < w.heap.size → w'.heap[k]? = w.heap[k]?) ∧ w.heap.size ≤ w'.heap.size ∧
      Tm a 184 [(0, .int .i64 v), (7, .pointer (some ⟨w.heap.size, 0, none⟩)), (8, .pointer (some ⟨w.heap.size + 1 + 1, 0, none⟩)), (9, lv), (13, .int .i64 code)]) (fun kk K => ?_) ?_
    · clear H
      replace kt := Keep.out kt
      replace own := Keep.out own
      replace hpb := Keep.out hpb
      replace hold := Keep.out hold
      replace hnil := Keep.out hnil
      replace hlen := Keep.out hlen
      replace C := Keep.out C
      replace b2 := Keep.out b2
      replace z2 := Keep.out z2
      have b3 := kt.cell b2
      have C3 := kt.ch C
      have hsz3 : w.heap.size ≤ w3.heap.size := by have := kt.1; omega
      replace K := Keep.mk K
      by_cases m0 : m = 0
      · subst m0
        have hsv := hnil (by omega)
        subst hsv
        repeat (first
          | refine y_seq ?_
          | (refine y_region ?_; simp only [List.size_toArray, List.length_cons, List.length_nil, Nat.reduceAdd, Nat.zero_add, List.range, List.range.loop])
          | refine y_regionEnd ?_
          | (refine y_nw rfl (by rfl) rfl (by first | exact nx_of rfl | exact nx_nil rfl rfl | exact nx_int rfl rfl rfl) (fun dd hS K hK => ?_); go_simp; refine hK _ _ _ ?_; clear hK K hS dd; simp only [recOf]; try walk_nrm)
          | (refine y_unwanted rfl (by rfl) ?_; try walk_nrm)
          | (refine y_cond true rfl ?_; simp only [if_true])
          | (refine y_cond false rfl ?_; simp only [Bool.false_eq_true, if_false])
          | refine y_skip ?_ | refine y_block ?_ | refine y_inBlock ?_ | refine y_label ?_ | refine y_exit rfl ?_ | refine y_ret ?_ | refine y_end ?_ | refine y_scope ?_ | refine y_inScope ?_)
        exact K.out _ _ _ ⟨rfl, .slice none 0 0, 25, .empty, b3, C3, hold, hsz3, ⟨rfl, rfl, rfl, rfl, rfl, rfl, rfl, trivial⟩⟩
      · have h63 : (0 : Int) < m := by omega
        obtain ⟨l, cap, rfl, hl, hcases, cur, hcur⟩ := cases_of_row own (by omega)
        have h64 : 0 < m := by omega
        first | simp only [h63, decide_true] | simp only [h64, decide_true]
        replace hcases := Keep.mk hcases
        replace hpb := Keep.mk hpb
        replace hold := Keep.mk hold
        replace hnil := Keep.mk hnil
        replace b3 := Keep.mk b3
        replace C3 := Keep.mk C3
        replace hsz3 := Keep.mk hsz3
        replace kt := Keep.mk kt
        replace own := Keep.mk own
        replace hl := Keep.mk hl
        replace hcur := Keep.mk hcur
        replace hlen := Keep.mk hlen
        repeat (first
          | refine y_seq ?_
          | (refine y_region ?_; simp only [List.size_toArray, List.length_cons, List.length_nil, Nat.reduceAdd, Nat.zero_add, List.range, List.range.loop])
          | refine y_regionEnd ?_
          | (refine y_nw rfl (by rfl) rfl (by first | exact nx_of rfl | exact nx_nil rfl rfl | exact nx_int rfl rfl rfl) (fun dd hS K hK => ?_); go_simp; refine hK _ _ _ ?_; clear hK K hS dd; simp only [recOf]; try walk_nrm)
          | (refine y_unwanted rfl (by rfl) ?_; try walk_nrm)
          | (refine y_cond true rfl ?_; simp only [if_true])
          | (refine y_cond false rfl ?_; simp only [Bool.false_eq_true, if_false])
          | refine y_skip ?_ | refine y_block ?_ | refine y_inBlock ?_ | refine y_label ?_ | refine y_exit rfl ?_ | refine y_ret ?_ | refine y_end ?_ | refine y_scope ?_ | refine y_inScope ?_)
        refine y_callR rfl (by rfl) rfl rfl Try.func43 (by kernel_rfl) (by kernel_rfl) (at21 bad 3 (by decide) (by decide)) (by simp only [List.map_toArray, List.map_cons, List.map_nil] <;> rfl) ?_
        rintro r σ'' w'' ⟨⟨b3', hb3, rfl⟩, e2, e3⟩
        rw [e2, e3]; clear e2 e3 σ'' w''
        walk_nrm
        have hb3' : b3' = 0 ∨ b3' = 1 ∨ b3' = 2 := by omega
        rcases hb3' with rfl | rfl | rfl
        · repeat (first
            | refine y_seq ?_
            | (refine y_region ?_; simp only [List.size_toArray, List.length_cons, List.length_nil, Nat.reduceAdd, Nat.zero_add, List.range, List.range.loop])
            | refine y_regionEnd ?_
            | (refine y_nw rfl (by rfl) rfl (by first | exact nx_of rfl | exact nx_nil rfl rfl | exact nx_int rfl rfl rfl) (fun dd hS K hK => ?_); go_simp; refine hK _ _ _ ?_; clear hK K hS dd; simp only [recOf]; try walk_nrm)
            | (refine y_unwanted rfl (by rfl) ?_; try walk_nrm)
            | (refine y_cond true rfl ?_; simp only [if_true])
            | (refine y_cond false rfl ?_; simp only [Bool.false_eq_true, if_false])
            | refine y_skip ?_ | refine y_block ?_ | refine y_inBlock ?_ | refine y_label ?_ | refine y_exit rfl ?_ | refine y_ret ?_ | refine y_end ?_ | refine y_scope ?_ | refine y_inScope ?_)
          refine y_callR rfl (by rfl) rfl rfl Try.func43 (by kernel_rfl) (by kernel_rfl) (at21 bad m (by omega) (by omega)) (by simp only [List.map_toArray, List.map_cons, List.map_nil] <;> rfl) ?_
          rintro r σ'' w'' ⟨⟨y, hy, rfl⟩, e2, e3⟩
          rw [e2, e3]; clear e2 e3 σ'' w''
          have y1 : (0 : Int) ≤ y := by omega
          have y2 : (y : Int) < cs.length := by have := hlen.out; omega
          walk_nrm
          repeat (first
            | refine y_seq ?_
            | (refine y_region ?_; simp only [List.size_toArray, List.length_cons, List.length_nil, Nat.reduceAdd, Nat.zero_add, List.range, List.range.loop])
            | refine y_regionEnd ?_
            | (refine y_nw rfl (by rfl) rfl (by first | exact nx_of rfl | exact nx_nil rfl rfl | exact nx_int rfl rfl rfl) (fun dd hS K hK => ?_); go_simp; refine hK _ _ _ ?_; clear hK K hS dd; simp only [recOf]; try walk_nrm)
            | (refine y_unwanted rfl (by rfl) ?_; try walk_nrm)
            | (refine y_cond true rfl ?_; simp only [if_true])
            | (refine y_cond false rfl ?_; simp only [Bool.false_eq_true, if_false])
            | refine y_skip ?_ | refine y_block ?_ | refine y_inBlock ?_ | refine y_label ?_ | refine y_exit rfl ?_ | refine y_ret ?_ | refine y_end ?_ | refine y_scope ?_ | refine y_inScope ?_)
          replace hcur := Keep.out hcur
          replace hcases := Keep.out hcases
          replace hpb := Keep.out hpb
          replace hlen := Keep.out hlen
          replace b3 := Keep.out b3
          replace C3 := Keep.out C3
          replace hold := Keep.out hold
          replace hsz3 := Keep.out hsz3
          replace hl := Keep.out hl
          obtain ⟨c0, hc0⟩ : ∃ c, cs[y]? = some c := ⟨_, List.getElem?_eq_getElem (by omega)⟩
          have hpc := hcases.pipe y c0 hc0
          have fz' := frozen_of (i := y * 3) hcur
          (refine y_store rfl (by rfl) rfl rfl rfl hpc (hf _) (fun dd hS K hK => ?_); go_simp; refine hK _ _ _ ?_; clear hK K hS dd; simp only [recOf]; try walk_nrm)
          clear fz'
          have S4 := setO (i := y * 3) hcur (.pointer none)
          generalize World.setCell _ _ _ = w4 at S4 ⊢
          have R4 := refset_put (d := none) (bell := w.heap.size) hcases hcur S4 (by omega) (by omega) hpb .nil (by simp)
          have kt4 := setO_keepT hcur S4
          have hold4 : ∀ k, k < w.heap.size → w4.heap[k]? = w.heap[k]? := fun k hk => (S4.other k (by omega)).trans (hold k hk)
          have b4 := kt4.cell b3
          have C4 := kt4.ch C3
          have hz4 := S4.size
          clear hcases hpc hcur
          replace R4 := Keep.mk R4
          replace kt4 := Keep.mk kt4
          replace hold4 := Keep.mk hold4
          replace b4 := Keep.mk b4
          replace C4 := Keep.mk C4
          replace hz4 := Keep.mk hz4
          replace S4 := Keep.mk S4
          replace hpb := Keep.mk hpb
          replace hold := Keep.mk hold
          replace b3 := Keep.mk b3
          replace C3 := Keep.mk C3
          replace hlen := Keep.mk hlen
          repeat (first
            | refine y_seq ?_
            | (refine y_region ?_; simp only [List.size_toArray, List.length_cons, List.length_nil, Nat.reduceAdd, Nat.zero_add, List.range, List.range.loop])
            | refine y_regionEnd ?_
            | (refine y_nw rfl (by rfl) rfl (by first | exact nx_of rfl | exact nx_nil rfl rfl | exact nx_int rfl rfl rfl) (fun dd hS K hK => ?_); go_simp; refine hK _ _ _ ?_; clear hK K hS dd; simp only [recOf]; try walk_nrm)
            | (refine y_unwanted rfl (by rfl) ?_; try walk_nrm)
            | (refine y_cond true rfl ?_; simp only [if_true])
            | (refine y_cond false rfl ?_; simp only [Bool.false_eq_true, if_false])
            | refine y_skip ?_ | refine y_block ?_ | refine y_inBlock ?_ | refine y_label ?_ | refine y_exit rfl ?_ | refine y_ret ?_ | refine y_end ?_ | refine y_scope ?_ | refine y_inScope ?_)
          have R4' := R4.out
          rw [hlen.out] at R4'
          exact K.out _ _ _ ⟨rfl, _, _, R4', b4.out, C4.out, hold4.out, by have := hz4.out; omega, ⟨rfl, rfl, rfl, rfl, rfl, rfl, rfl, trivial⟩⟩
        · repeat (first
            | refine y_seq ?_
            | (refine y_region ?_; simp only [List.size_toArray, List.length_cons, List.length_nil, Nat.reduceAdd, Nat.zero_add, List.range, List.range.loop])
            | refine y_regionEnd ?_
            | (refine y_nw rfl (by rfl) rfl (by first | exact nx_of rfl | exact nx_nil rfl rfl | exact nx_int rfl rfl rfl) (fun dd hS K hK => ?_); go_simp; refine hK _ _ _ ?_; clear hK K hS dd; simp only [recOf]; try walk_nrm)
            | (refine y_unwanted rfl (by rfl) ?_; try walk_nrm)
            | (refine y_cond true rfl ?_; simp only [if_true])
            | (refine y_cond false rfl ?_; simp only [Bool.false_eq_true, if_false])
            | refine y_skip ?_ | refine y_block ?_ | refine y_inBlock ?_ | refine y_label ?_ | refine y_exit rfl ?_ | refine y_ret ?_ | refine y_end ?_ | refine y_scope ?_ | refine y_inScope ?_)
          refine y_callR rfl (by rfl) rfl rfl Try.func43 (by kernel_rfl) (by kernel_rfl) (at21 bad m (by omega) (by omega)) (by simp only [List.map_toArray, List.map_cons, List.map_nil] <;> rfl) ?_
          rintro r σ'' w'' ⟨⟨y, hy, rfl⟩, e2, e3⟩
          rw [e2, e3]; clear e2 e3 σ'' w''
          have y1 : (0 : Int) ≤ y := by omega
          have y2 : (y : Int) < cs.length := by have := hlen.out; omega
          walk_nrm
          repeat (first
            | refine y_seq ?_
            | (refine y_region ?_; simp only [List.size_toArray, List.length_cons, List.length_nil, Nat.reduceAdd, Nat.zero_add, List.range, List.range.loop])
            | refine y_regionEnd ?_
            | (refine y_nw rfl (by rfl) rfl (by first | exact nx_of rfl | exact nx_nil rfl rfl | exact nx_int rfl rfl rfl) (fun dd hS K hK => ?_); go_simp; refine hK _ _ _ ?_; clear hK K hS dd; simp only [recOf]; try walk_nrm)
            | (refine y_unwanted rfl (by rfl) ?_; try walk_nrm)
            | (refine y_cond true rfl ?_; simp only [if_true])
            | (refine y_cond false rfl ?_; simp only [Bool.false_eq_true, if_false])
            | refine y_skip ?_ | refine y_block ?_ | refine y_inBlock ?_ | refine y_label ?_ | refine y_exit rfl ?_ | refine y_ret ?_ | refine y_end ?_ | refine y_scope ?_ | refine y_inScope ?_)
          refine y_callR rfl (by rfl) rfl rfl Try.func45 (by kernel_rfl) (by kernel_rfl) (pipe_new_nil 2 (by decide) (by decide) pow2_2.self) (by simp only [List.map_toArray, List.map_cons, List.map_nil] <;> rfl) ?_
          rintro r σ'' w4 ⟨e2, p, bb, c1, sv1, wx, rfl, M, hbb, hbx, hb4⟩
          rw [e2]; clear e2 σ''
          replace hcur := Keep.out hcur
          replace hcases := Keep.out hcases
          replace hpb := Keep.out hpb
          replace hlen := Keep.out hlen
          replace b3 := Keep.out b3
          replace C3 := Keep.out C3
          replace hold := Keep.out hold
          replace hsz3 := Keep.out hsz3
          replace hl := Keep.out hl
          have g34 : Grew w3 w4 := ⟨M.size, M.old⟩
          have pb4 := M.pb hb4
          have hcur4 := (g34.old l (lt_of_get hcur)).trans hcur
          have hcases4 := hcases.grew g34
          have hpb4 : ∀ (x : Nat) (c : Value × Bool × Int), cs[x]? = some c → PB w4 c.1 w.heap.size := fun x c h => g34.keepT.pb (hpb x c h)
          have hold4 : ∀ k, k < w.heap.size → w4.heap[k]? = w.heap[k]? := fun k hk => (g34.old k (by omega)).trans (hold k hk)
          have b4 : CellIs w4 w.heap.size 0 := b3.later (g34.old _ b3.lt)
          have C4 := C3.grew g34
          have hne : some bb ≠ some w.heap.size := fun h => by have := Option.some.inj h; have := b3.lt; omega
          have hsz4 : w.heap.size ≤ w4.heap.size := by have := g34.size; omega
          clear hcases hpb hcur hold b3 C3 hsz3 g34 hbx hb4 hbb M
          replace pb4 := Keep.mk pb4
          replace hcur4 := Keep.mk hcur4
          replace hcases4 := Keep.mk hcases4
          replace hpb4 := Keep.mk hpb4
          replace hold4 := Keep.mk hold4
          replace b4 := Keep.mk b4
          replace C4 := Keep.mk C4
          replace hne := Keep.mk hne
          replace hsz4 := Keep.mk hsz4
          replace hl := Keep.mk hl
          replace hlen := Keep.mk hlen
          walk_nrm
          repeat (first
            | refine y_seq ?_
            | (refine y_region ?_; simp only [List.size_toArray, List.length_cons, List.length_nil, Nat.reduceAdd, Nat.zero_add, List.range, List.range.loop])
            | refine y_regionEnd ?_
            | (refine y_nw rfl (by rfl) rfl (by first | exact nx_of rfl | exact nx_nil rfl rfl | exact nx_int rfl rfl rfl) (fun dd hS K hK => ?_); go_simp; refine hK _ _ _ ?_; clear hK K hS dd; simp only [recOf]; try walk_nrm)
            | (refine y_unwanted rfl (by rfl) ?_; try walk_nrm)
            | (refine y_cond true rfl ?_; simp only [if_true])
            | (refine y_cond false rfl ?_; simp only [Bool.false_eq_true, if_false])
            | refine y_skip ?_ | refine y_block ?_ | refine y_inBlock ?_ | refine y_label ?_ | refine y_exit rfl ?_ | refine y_ret ?_ | refine y_end ?_ | refine y_scope ?_ | refine y_inScope ?_)
          replace pb4 := Keep.out pb4
          replace hcur4 := Keep.out hcur4
          replace hcases4 := Keep.out hcases4
          replace hpb4 := Keep.out hpb4
          replace hold4 := Keep.out hold4
          replace b4 := Keep.out b4
          replace C4 := Keep.out C4
          replace hne := Keep.out hne
          replace hsz4 := Keep.out hsz4
          replace hl := Keep.out hl
          replace hlen := Keep.out hlen
          obtain ⟨c0, hc0⟩ : ∃ c, cs[y]? = some c := ⟨_, List.getElem?_eq_getElem (by omega)⟩
          have hpc := hcases4.pipe y c0 hc0
          have fz' := frozen_of (i := y * 3) hcur4
          (refine y_store rfl (by rfl) rfl rfl rfl hpc (hf _) (fun dd hS K hK => ?_); go_simp; refine hK _ _ _ ?_; clear hK K hS dd; simp only [recOf]; try walk_nrm)
          clear fz'
          have S5 := setO (i := y * 3) hcur4 (.pointer (some ⟨p, 0, none⟩))
          generalize World.setCell _ _ _ = w5 at S5 ⊢
          have kt5 := setO_keepT hcur4 S5
          have R5 := refset_put (d := some bb) (bell := w.heap.size) hcases4 hcur4 S5 (by omega) (by omega) hpb4 (kt5.pb pb4).bell hne
          have hold5 : ∀ k, k < w.heap.size → w5.heap[k]? = w.heap[k]? := fun k hk => (S5.other k (by omega)).trans (hold4 k hk)
          have b5 := kt5.cell b4
          have C5 := kt5.ch C4
          have hz5 : w.heap.size ≤ w5.heap.size := by have := S5.size; omega
          clear hcases4 hpc hcur4 hpb4 kt5 hold4 b4 C4 S5 hne pb4 hsz4
          rw [Keep.out hlen] at R5
          replace R5 := Keep.mk R5
          replace hold5 := Keep.mk hold5
          replace b5 := Keep.mk b5
          replace C5 := Keep.mk C5
          replace hz5 := Keep.mk hz5
          repeat (first
            | refine y_seq ?_
            | (refine y_region ?_; simp only [List.size_toArray, List.length_cons, List.length_nil, Nat.reduceAdd, Nat.zero_add, List.range, List.range.loop])
            | refine y_regionEnd ?_
            | (refine y_nw rfl (by rfl) rfl (by first | exact nx_of rfl | exact nx_nil rfl rfl | exact nx_int rfl rfl rfl) (fun dd hS K hK => ?_); go_simp; refine hK _ _ _ ?_; clear hK K hS dd; simp only [recOf]; try walk_nrm)
            | (refine y_unwanted rfl (by rfl) ?_; try walk_nrm)
            | (refine y_cond true rfl ?_; simp only [if_true])
            | (refine y_cond false rfl ?_; simp only [Bool.false_eq_true, if_false])
            | refine y_skip ?_ | refine y_block ?_ | refine y_inBlock ?_ | refine y_label ?_ | refine y_exit rfl ?_ | refine y_ret ?_ | refine y_end ?_ | refine y_scope ?_ | refine y_inScope ?_)
          exact K.out _ _ _ ⟨rfl, _, _, R5.out, b5.out, C5.out, hold5.out, hz5.out, ⟨rfl, rfl, rfl, rfl, rfl, rfl, rfl, trivial⟩⟩
        · repeat (first
            | refine y_seq ?_
            | (refine y_region ?_; simp only [List.size_toArray, List.length_cons, List.length_nil, Nat.reduceAdd, Nat.zero_add, List.range, List.range.loop])
            | refine y_regionEnd ?_
            | (refine y_nw rfl (by rfl) rfl (by first | exact nx_of rfl | exact nx_nil rfl rfl | exact nx_int rfl rfl rfl) (fun dd hS K hK => ?_); go_simp; refine hK _ _ _ ?_; clear hK K hS dd; simp only [recOf]; try walk_nrm)
            | (refine y_unwanted rfl (by rfl) ?_; try walk_nrm)
            | (refine y_cond true rfl ?_; simp only [if_true])
            | (refine y_cond false rfl ?_; simp only [Bool.false_eq_true, if_false])
            | refine y_skip ?_ | refine y_block ?_ | refine y_inBlock ?_ | refine y_label ?_ | refine y_exit rfl ?_ | refine y_ret ?_ | refine y_end ?_ | refine y_scope ?_ | refine y_inScope ?_)
          refine y_callR rfl (by rfl) rfl rfl Try.func43 (by kernel_rfl) (by kernel_rfl) (at21 bad m (by omega) (by omega)) (by simp only [List.map_toArray, List.map_cons, List.map_nil] <;> rfl) ?_
          rintro r σ'' w'' ⟨⟨y, hy, rfl⟩, e2, e3⟩
          rw [e2, e3]; clear e2 e3 σ'' w''
          have y1 : (0 : Int) ≤ y := by omega
          have y2 : (y : Int) < cs.length := by have := hlen.out; omega
          walk_nrm
          repeat (first
            | refine y_seq ?_
            | (refine y_region ?_; simp only [List.size_toArray, List.length_cons, List.length_nil, Nat.reduceAdd, Nat.zero_add, List.range, List.range.loop])
            | refine y_regionEnd ?_
            | (refine y_nw rfl (by rfl) rfl (by first | exact nx_of rfl | exact nx_nil rfl rfl | exact nx_int rfl rfl rfl) (fun dd hS K hK => ?_); go_simp; refine hK _ _ _ ?_; clear hK K hS dd; simp only [recOf]; try walk_nrm)
            | (refine y_unwanted rfl (by rfl) ?_; try walk_nrm)
            | (refine y_cond true rfl ?_; simp only [if_true])
            | (refine y_cond false rfl ?_; simp only [Bool.false_eq_true, if_false])
            | refine y_skip ?_ | refine y_block ?_ | refine y_inBlock ?_ | refine y_label ?_ | refine y_exit rfl ?_ | refine y_ret ?_ | refine y_end ?_ | refine y_scope ?_ | refine y_inScope ?_)
          replace hcur := Keep.out hcur
          replace hcases := Keep.out hcases
          replace hpb := Keep.out hpb
          replace hlen := Keep.out hlen
          replace b3 := Keep.out b3
          replace C3 := Keep.out C3
          replace hold := Keep.out hold
          replace hsz3 := Keep.out hsz3
          replace hl := Keep.out hl
          have N4 := newO w3 (.cells #[.pointer none, .pointer none, .pointer none, .slice none 0 0] 95)
          generalize World.alloc _ (.cells #[.pointer none, .pointer none, .pointer none, .slice none 0 0] 95) = w4 at N4 ⊢
          have g34 : Grew w3 w4 := (Grew.refl w3).newO N4
          have B4 : w4.cell? ⟨w3.heap.size, 0, none⟩ = some (.pointer none) := by unfold World.cell?; rw [N4.is]; rfl
          have hcur4 := (g34.old l (lt_of_get hcur)).trans hcur
          have hcases4 := hcases.grew g34
          have hpb4 : ∀ (x : Nat) (c : Value × Bool × Int), cs[x]? = some c → PB w4 c.1 w.heap.size := fun x c h => g34.keepT.pb (hpb x c h)
          have hold4 : ∀ k, k < w.heap.size → w4.heap[k]? = w.heap[k]? := fun k hk => (g34.old k (by omega)).trans (hold k hk)
          have b4 : CellIs w4 w.heap.size 0 := b3.later (g34.old _ b3.lt)
          have C4 := C3.grew g34
          have hl3 := lt_of_get hcur
          have hsz4 : w.heap.size ≤ w4.heap.size := by have := g34.size; omega
          clear hcases hpb hcur hold b3 C3 hsz3 g34
          obtain ⟨c0, hc0⟩ : ∃ c, cs[y]? = some c := ⟨_, List.getElem?_eq_getElem (by omega)⟩
          have hpc := hcases4.pipe y c0 hc0
          have fz' := frozen_of (i := y * 3) hcur4
          (refine y_store rfl (by rfl) rfl rfl rfl hpc (hf _) (fun dd hS K hK => ?_); go_simp; refine hK _ _ _ ?_; clear hK K hS dd; simp only [recOf]; try walk_nrm)
          clear fz'
          have S5 := setO (i := y * 3) hcur4 (.pointer (some ⟨w3.heap.size, 0, none⟩))
          generalize World.setCell _ _ _ = w5 at S5 ⊢
          have kt5 := setO_keepT hcur4 S5
          have B5 : w5.cell? ⟨w3.heap.size, 0, none⟩ = some (.pointer none) := (cell?_of_block (S5.other w3.heap.size (by omega))).trans B4
          have R5 := refset_put (d := none) (bell := w.heap.size) hcases4 hcur4 S5 (by omega) (by omega) hpb4 (.bare _ B5) (by simp)
          have hold5 : ∀ k, k < w.heap.size → w5.heap[k]? = w.heap[k]? := fun k hk => (S5.other k (by omega)).trans (hold4 k hk)
          have b5 := kt5.cell b4
          have C5 := kt5.ch C4
          have hz5 : w.heap.size ≤ w5.heap.size := by have := S5.size; omega
          clear hcases4 hpc hcur4 hpb4 kt5 hold4 b4 C4 S5 hsz4 N4 B4 B5 hl3
          rw [Keep.out hlen] at R5
          replace R5 := Keep.mk R5
          replace hold5 := Keep.mk hold5
          replace b5 := Keep.mk b5
          replace C5 := Keep.mk C5
          replace hz5 := Keep.mk hz5
          repeat (first
            | refine y_seq ?_
            | (refine y_region ?_; simp only [List.size_toArray, List.length_cons, List.length_nil, Nat.reduceAdd, Nat.zero_add, List.range, List.range.loop])
            | refine y_regionEnd ?_
            | (refine y_nw rfl (by rfl) rfl (by first | exact nx_of rfl | exact nx_nil rfl rfl | exact nx_int rfl rfl rfl) (fun dd hS K hK => ?_); go_simp; refine hK _ _ _ ?_; clear hK K hS dd; simp only [recOf]; try walk_nrm)
            | (refine y_unwanted rfl (by rfl) ?_; try walk_nrm)
            | (refine y_cond true rfl ?_; simp only [if_true])
            | (refine y_cond false rfl ?_; simp only [Bool.false_eq_true, if_false])
            | refine y_skip ?_ | refine y_block ?_ | refine y_inBlock ?_ | refine y_label ?_ | refine y_exit rfl ?_ | refine y_ret ?_ | refine y_end ?_ | refine y_scope ?_ | refine y_inScope ?_)
          exact K.out _ _ _ ⟨rfl, _, _, R5.out, b5.out, C5.out, hold5.out, hz5.out, ⟨rfl, rfl, rfl, rfl, rfl, rfl, rfl, trivial⟩⟩
    · rintro a σ w4 ⟨rfl, lv, code, R, b4, C4, hold4, hsz4, hT⟩
      clear kt own hpb hold hnil
      obtain ⟨j, rfl, h0', h1', h2', h3', h4', -⟩ := Tm.lit hT
      simp only at h0' h1' h2' h3' h4'
      simp only [List.range, List.range.loop, List.map_cons, List.map_nil, h0', h1', h2', h3', h4']
      clear h0' h1' h2' h3' h4' hT
      replace R := Keep.mk R
      replace b4 := Keep.mk b4
      replace C4 := Keep.mk C4
      replace hold4 := Keep.mk hold4
      replace hsz4 := Keep.mk hsz4
      repeat (first
        | refine y_seq ?_
        | (refine y_region ?_; simp only [List.size_toArray, List.length_cons, List.length_nil, Nat.reduceAdd, Nat.zero_add, List.range, List.range.loop])
        | refine y_regionEnd ?_
        | (refine y_nw rfl (by rfl) rfl (by first | exact nx_of rfl | exact nx_nil rfl rfl | exact nx_int rfl rfl rfl) (fun dd hS K hK => ?_); go_simp; refine hK _ _ _ ?_; clear hK K hS dd; simp only [recOf]; try walk_nrm)
        | (refine y_unwanted rfl (by rfl) ?_; try walk_nrm)
        | (refine y_cond true rfl ?_; simp only [if_true])
        | (refine y_cond false rfl ?_; simp only [Bool.false_eq_true, if_false])
        | refine y_skip ?_ | refine y_block ?_ | refine y_inBlock ?_ | refine y_label ?_ | refine y_exit rfl ?_ | refine y_ret ?_ | refine y_end ?_ | refine y_scope ?_ | refine y_inScope ?_)
      refine y_callR rfl (by rfl) rfl rfl Try.func46 (by kernel_rfl) (by kernel_rfl) (select_refused (t := .pointer none) (R.out.refused C4.out b4.out) R.out.ne) (by simp only [List.map_toArray, List.map_cons, List.map_nil] <;> rfl) ?_
      rintro _ σ'' w5 ⟨rfl, e2, g5⟩
      rw [e2]
      clear e2 σ''
      walk_nrm
      have R5 := R.out.grew g5
      have C5 := C4.out.grew g5
      have b5 : CellIs w5 w.heap.size 0 := b4.out.later (g5.old _ b4.out.lt)
      replace R5 := Keep.mk R5
      replace C5 := Keep.mk C5
      replace b5 := Keep.mk b5
      replace g5 := Keep.mk g5
      repeat (first
        | refine y_seq ?_
        | (refine y_region ?_; simp only [List.size_toArray, List.length_cons, List.length_nil, Nat.reduceAdd, Nat.zero_add, List.range, List.range.loop])
        | refine y_regionEnd ?_
        | (refine y_nw rfl (by rfl) rfl (by first | exact nx_of rfl | exact nx_nil rfl rfl | exact nx_int rfl rfl rfl) (fun dd hS K hK => ?_); go_simp; refine hK _ _ _ ?_; clear hK K hS dd; simp only [recOf]; try walk_nrm)
        | (refine y_unwanted rfl (by rfl) ?_; try walk_nrm)
        | (refine y_cond true rfl ?_; simp only [if_true])
        | (refine y_cond false rfl ?_; simp only [Bool.false_eq_true, if_false])
        | refine y_skip ?_ | refine y_block ?_ | refine y_inBlock ?_ | refine y_label ?_ | refine y_exit rfl ?_ | refine y_ret ?_ | refine y_end ?_ | refine y_scope ?_ | refine y_inScope ?_)
      refine y_callR rfl (by rfl) rfl rfl Try.func47 (by kernel_rfl) (by kernel_rfl) (try_refused (t := .pointer none) (R5.out.refused C5.out b5.out) R5.out.ne) (by simp only [List.map_toArray, List.map_cons, List.map_nil] <;> rfl) ?_
      rintro _ σ'' w6 ⟨rfl, e2, g6⟩
      rw [e2]
      clear e2 σ''
      walk_nrm
      have b6 : CellIs w6 w.heap.size 0 := b5.out.later (g6.old _ b5.out.lt)
      replace g6 := Keep.mk g6
      replace b6 := Keep.mk b6
      repeat (first
        | refine y_seq ?_
        | (refine y_region ?_; simp only [List.size_toArray, List.length_cons, List.length_nil, Nat.reduceAdd, Nat.zero_add, List.range, List.range.loop])
        | refine y_regionEnd ?_
        | (refine y_nw rfl (by rfl) rfl (by first | exact nx_of rfl | exact nx_nil rfl rfl | exact nx_int rfl rfl rfl) (fun dd hS K hK => ?_); go_simp; refine hK _ _ _ ?_; clear hK K hS dd; simp only [recOf]; try walk_nrm)
        | (refine y_unwanted rfl (by rfl) ?_; try walk_nrm)
        | (refine y_cond true rfl ?_; simp only [if_true])
        | (refine y_cond false rfl ?_; simp only [Bool.false_eq_true, if_false])
        | refine y_skip ?_ | refine y_block ?_ | refine y_inBlock ?_ | refine y_label ?_ | refine y_exit rfl ?_ | refine y_ret ?_ | refine y_end ?_ | refine y_scope ?_ | refine y_inScope ?_)
      refine y_callR rfl (by rfl) rfl rfl Try.func46 (by kernel_rfl) (by kernel_rfl) (select_refused (t := .pointer none) ((refused_nil lv).mono fun r σ' w' h => ⟨h.1, h.2.1, h.2.2 ▸ Grew.refl _⟩) (by decide)) (by simp only [List.map_toArray, List.map_cons, List.map_nil] <;> rfl) ?_
      rintro _ σ'' w8 ⟨rfl, e2, g8⟩
      rw [e2]
      clear e2 σ''
      walk_nrm
      replace g8 := Keep.mk g8
      have N7 := newO w6 (.cells #[.pointer none, .pointer none] 99)
      have g68 : Grew w6 w8 := ((Grew.refl w6).newO N7).trans g8.out
      have c8 : w8.cell? ⟨w6.heap.size, 0, none⟩ = some (.pointer none) := g8.out.cell (by unfold World.cell?; rw [N7.is]; rfl)
      have b8 : CellIs w8 w.heap.size 0 := b6.out.later (g68.old _ b6.out.lt)
      clear g8 N7
      replace c8 := Keep.mk c8
      replace b8 := Keep.mk b8
      replace g68 := Keep.mk g68
      repeat (first
        | refine y_seq ?_
        | (refine y_region ?_; simp only [List.size_toArray, List.length_cons, List.length_nil, Nat.reduceAdd, Nat.zero_add, List.range, List.range.loop])
        | refine y_regionEnd ?_
        | (refine y_nw rfl (by rfl) rfl (by first | exact nx_of rfl | exact nx_nil rfl rfl | exact nx_int rfl rfl rfl) (fun dd hS K hK => ?_); go_simp; refine hK _ _ _ ?_; clear hK K hS dd; simp only [recOf]; try walk_nrm)
        | (refine y_unwanted rfl (by rfl) ?_; try walk_nrm)
        | (refine y_cond true rfl ?_; simp only [if_true])
        | (refine y_cond false rfl ?_; simp only [Bool.false_eq_true, if_false])
        | refine y_skip ?_ | refine y_block ?_ | refine y_inBlock ?_ | refine y_label ?_ | refine y_exit rfl ?_ | refine y_ret ?_ | refine y_end ?_ | refine y_scope ?_ | refine y_inScope ?_)
      refine y_callR rfl (by rfl) rfl rfl Try.func47 (by kernel_rfl) (by kernel_rfl) (try_refused (t := .pointer none) ((refused_bare _ lv c8.out).mono fun r σ' w' h => ⟨h.1, h.2.1, h.2.2 ▸ Grew.refl _⟩) (by decide)) (by simp only [List.map_toArray, List.map_cons, List.map_nil] <;> rfl) ?_
      rintro _ σ'' w9 ⟨rfl, e2, g9⟩
      rw [e2]
      clear e2 σ''
      walk_nrm
      have b9 : CellIs w9 w.heap.size 0 := b8.out.later (g9.old _ b8.out.lt)
      replace g9 := Keep.mk g9
      replace b9 := Keep.mk b9
      repeat (first
        | refine y_seq ?_
        | (refine y_region ?_; simp only [List.size_toArray, List.length_cons, List.length_nil, Nat.reduceAdd, Nat.zero_add, List.range, List.range.loop])
        | refine y_regionEnd ?_
        | (refine y_nw rfl (by rfl) rfl (by first | exact nx_of rfl | exact nx_nil rfl rfl | exact nx_int rfl rfl rfl) (fun dd hS K hK => ?_); go_simp; refine hK _ _ _ ?_; clear hK K hS dd; simp only [recOf]; try walk_nrm)
        | (refine y_unwanted rfl (by rfl) ?_; try walk_nrm)
        | (refine y_cond true rfl ?_; simp only [if_true])
        | (refine y_cond false rfl ?_; simp only [Bool.false_eq_true, if_false])
        | refine y_skip ?_ | refine y_block ?_ | refine y_inBlock ?_ | refine y_label ?_ | refine y_exit rfl ?_ | refine y_ret ?_ | refine y_end ?_ | refine y_scope ?_ | refine y_inScope ?_)
      refine y_callR rfl (by rfl) rfl rfl Try.func41 (by kernel_rfl) (by kernel_rfl) (cell_load (t := .pointer none) b9.out rfl) (by simp only [List.map_toArray, List.map_cons, List.map_nil] <;> rfl) ?_
      rintro _ σ'' w'' ⟨rfl, e2, e3⟩
      rw [e2, e3]
      clear e2 e3 w'' σ''
      walk_nrm
      repeat (first
        | refine y_seq ?_
        | (refine y_region ?_; simp only [List.size_toArray, List.length_cons, List.length_nil, Nat.reduceAdd, Nat.zero_add, List.range, List.range.loop])
        | refine y_regionEnd ?_
        | (refine y_nw rfl (by rfl) rfl (by first | exact nx_of rfl | exact nx_nil rfl rfl | exact nx_int rfl rfl rfl) (fun dd hS K hK => ?_); go_simp; refine hK _ _ _ ?_; clear hK K hS dd; simp only [recOf]; try walk_nrm)
        | (refine y_unwanted rfl (by rfl) ?_; try walk_nrm)
        | (refine y_cond true rfl ?_; simp only [if_true])
        | (refine y_cond false rfl ?_; simp only [Bool.false_eq_true, if_false])
        | refine y_skip ?_ | refine y_block ?_ | refine y_inBlock ?_ | refine y_label ?_ | refine y_exit rfl ?_ | refine y_ret ?_ | refine y_end ?_ | refine y_scope ?_ | refine y_inScope ?_)
      refine y_callR rfl (by rfl) rfl rfl Try.func48 (by kernel_rfl) (by kernel_rfl) (works21 hf.out) (by simp only [List.map_toArray, List.map_cons, List.map_nil] <;> rfl) ?_
      rintro _ σ'' w10 ⟨rfl, e2, g10⟩
      rw [e2]
      clear e2 σ''
      walk_nrm
      repeat (first
        | refine y_seq ?_
        | (refine y_region ?_; simp only [List.size_toArray, List.length_cons, List.length_nil, Nat.reduceAdd, Nat.zero_add, List.range, List.range.loop])
        | refine y_regionEnd ?_
        | (refine y_nw rfl (by rfl) rfl (by first | exact nx_of rfl | exact nx_nil rfl rfl | exact nx_int rfl rfl rfl) (fun dd hS K hK => ?_); go_simp; refine hK _ _ _ ?_; clear hK K hS dd; simp only [recOf]; try walk_nrm)
        | (refine y_unwanted rfl (by rfl) ?_; try walk_nrm)
        | (refine y_cond true rfl ?_; simp only [if_true])
        | (refine y_cond false rfl ?_; simp only [Bool.false_eq_true, if_false])
        | refine y_skip ?_ | refine y_block ?_ | refine y_inBlock ?_ | refine y_label ?_ | refine y_exit rfl ?_ | refine y_ret ?_ | refine y_end ?_ | refine y_scope ?_ | refine y_inScope ?_)
      replace H := Keep.out H
      refine H _ _ _ _ (leaves_at rfl rfl Try.func6 (resultsC_tmp rfl _)) ?_
      replace hsz4 := Keep.out hsz4
      replace hold4 := Keep.out hold4
      replace g5 := Keep.out g5
      replace g6 := Keep.out g6
      replace g68 := Keep.out g68
      replace g9 := Keep.out g9
      have gA : Grew w4 w10 := (((g5.trans g6).trans g68).trans g9).trans g10
      exact ⟨rfl, rfl, by have := gA.size; omega, fun c hc => (gA.old c (by omega)).trans (hold4 c hc)⟩
end Go.Proofs.Ytcibnfjpagmdaaa
