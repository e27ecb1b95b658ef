/- ChoiceFair: whatever the input, the law returns true and its arguments stand: whoever is ready all the while is taken within n Selects. No condition. -/
import Derived.Test.YtcibnfjpagmdaaaRows
import Derived.Test.YtcibnfjpagmdaaaFair
import Derived.Test.YtcibnfjpagmdaaaBools
import Derived.WalkKit
import Derived.ProofKit
import Derived.OpenShut
namespace Go.Proofs.Ytcibnfjpagmdaaa.choiceFair
open Go.ChangeShapes Go.WideShapes Go.ChangeAt Go.RowKit
set_option linter.unusedVariables false      -- a walk need not use every 'w<i>' (that an integer argument fits its kind)

theorem cells4 : Try.prog.cellsOf 4 = 1 := by kernel_rfl
theorem own : ownKnob Try.prog.godebug = none := by kernel_rfl

theorem walk (a0 a1 : Int) {ra : Option Addr} {rl rc : Nat} {B : Nat → Bool} (w : World) (hrd : ∀ x, x < rl → ∃ A, ra = some A ∧ w.cell? (A.add x) = some (.bool (B x))) :
    Calls Try.prog 7 #[.int .i64 a0, .int .i64 a1, .slice ra rl rc] w fun e w' => e = .returned (.bool true) ∧ Go.TX.Kept w w' :=
  Go.TX.topX_calls (R := fun r σ' w' => r = .bool true ∧ σ' = Go.TX.cfg0 w ∧ Grew w w') (fun J => choiceFair a0 a1 hrd rfl) fun v σ' w' h => by
    obtain ⟨h1, h2, h3⟩ := h
    subst h2
    exact ⟨rfl, fun ho hu d => ⟨by rw [h1], ho, hu, h3.size, h3.old⟩⟩

set_option maxRecDepth 100000 in
theorem lifted (os : Os) (started : os.Started) (H : Type) (enc : TypeId × Value → H) :
    ReturnsInHanded {} Try.checked os 7 .any (Rows.choiceFairSpec.pre6 enc Try.prog Try.f7 Rows.choiceFairRow.domain false) (Rows.choiceFairSpec.post enc Try.prog Try.f7 false true false false) := by
  refine returnsInHanded_of_change (C := Try.checked) own started (by kernel_rfl) Try.func7
    (ChangeSpec.witness6 (enc := enc) (C := Try.checked) false ⟨#[], #[.int .i64 0, .int .i64 0, .slice none 0 0], []⟩ 8 (by kernel_rfl) (by kernel_rfl) (by kernel_rfl) (by kernel_rfl)) ?_
  intro W base args ds gs before hval0 hW hcnd _
  have hval : ∀ (j : Nat) t v, Try.f7.params[j]? = some t → args[j]? = some v → Value.okWide Try.prog W .any base t v := hval0
  have hW' := hW
  obtain ⟨p, q, hA0, hV, rfl, hfz, hnd⟩ := hW
  have hA : DataW.TrodAll enc Try.prog W 0 (fun _ => true) true Try.f7.params.toList args.toList ds p := hA0
  rw [Try.params7] at hA hval
  obtain ⟨v0, vs0, d0, ds0, p0, q0, hargs, rfl, rfl, h0, r0⟩ := trodAll_cons hA
  obtain ⟨v1, vs1, d1, ds1, p1, q1, rfl, rfl, rfl, h1, r1⟩ := trodAll_cons r0
  obtain ⟨v2, vs2, d2, ds2, p2, q2, rfl, rfl, rfl, h2, r2⟩ := trodAll_cons r1
  obtain ⟨rfl, rfl, rfl⟩ := trodAll_nil r2
  obtain rfl : args = #[v0, v1, v2] := by cases args; simp_all
  obtain ⟨rfl, rfl⟩ := trodVars_none hV
  obtain ⟨a0, rfl, rfl, rfl, w0⟩ := open_int Try.underlying3 (hval 0 3 v0 rfl rfl) h0
  obtain ⟨a1, rfl, rfl, rfl, w1⟩ := open_int Try.underlying3 (hval 1 3 v1 rfl rfl) h1
  obtain ⟨ra, rl, rc, rfl⟩ := okWide_slice Try.underlying59 (hval 2 59 v2 rfl rfl)
  obtain ⟨fuel, hf⟩ := h2
  clear hA0 hval0
  simp only [List.append_nil] at hW'
  rcases Go.Deep.open_bools Try.underlying59 Try.underlying4 cells4 hf with ⟨hcs, hx⟩ | ⟨a, len', cap', B, hcs, _, hl, hm, hx, hcell⟩
  · simp [Value.cells] at hcs
    obtain ⟨rfl, rfl, rfl⟩ := hcs
    simp only [Prod.mk.injEq] at hx
    obtain ⟨rfl, rfl⟩ := hx
    refine (walk a0 a1 (B := fun _ => false) W (fun x hx => absurd hx (by omega))).mono fun e W' ⟨he, hg⟩ => ?_
    subst he
    exact ⟨_, rfl, Go.TX.post_of_kept (pa := [] ++ ([] ++ ([] ++ []))) (pv := []) hW' (fun _ _ _ => (trodAll_cons_mk (shut_bool Try.underlying4 _) trodAll_mk0)) (fun sp _ => (trodAll_cons_mk (shut_int Try.underlying3 w0) (trodAll_cons_mk (shut_int Try.underlying3 w1) (trodAll_cons_mk ⟨1, Go.TX.shut_nilrow Try.underlying59⟩ trodAll_mk0)))) (fun _ _ => rfl) rfl
      hg (ok_one (by kernel_rfl) rfl (okWide_bool_mk Try.underlying4 _))⟩
  · simp [Value.cells] at hcs
    obtain ⟨rfl, rfl, rfl⟩ := hcs
    simp only [Prod.mk.injEq] at hx
    obtain ⟨rfl, rfl⟩ := hx
    refine (walk a0 a1 (B := B) W (fun x hx => ⟨a, rfl, hcell x (by omega)⟩)).mono fun e W' ⟨he, hg⟩ => ?_
    subst he
    have hcell' : ∀ i, i < rc → W'.cell? (a.add i) = some (.bool (B i)) := fun i hi => (Go.TX.cell?_of_block (hg.old _ (Go.TX.lt_of_cell (hcell i hi)))).trans (hcell i hi)
    refine ⟨_, rfl, Go.TX.post_of_kept (pa := [] ++ ([] ++ (MemPlace.row a rc ++ []))) (pv := []) hW' (fun _ _ _ => (trodAll_cons_mk (shut_bool Try.underlying4 _) trodAll_mk0)) (fun sp hsp => ?_) (fun _ _ => rfl) (by simp)
      hg (ok_one (by kernel_rfl) rfl (okWide_bool_mk Try.underlying4 _))⟩
    have hs : 0 < rc → sp a.block = true := fun h0 => by
      obtain ⟨b, off, spot⟩ := a
      exact hsp (.cell b off) (by simp only [List.nil_append]; exact MemPlace.mem_row.2 ⟨0, by omega, by simp⟩)
    exact trodAll_cons_mk (shut_int Try.underlying3 w0) (trodAll_cons_mk (shut_int Try.underlying3 w1) (trodAll_cons_mk ⟨2, Go.TX.shut_boolrow Try.underlying59 Try.underlying4 cells4 (by omega) hl hm hs hcell'⟩ trodAll_mk0))

set_option maxRecDepth 100000 in
theorem named : Try.pinned.checked.prog.funcNamed Rows.choiceFairRow.func = some 7 := by kernel_rfl
set_option maxRecDepth 100000 in
set_option maxHeartbeats 40000000 in
theorem closed : joinedFacts Try.pinned.checked.prog 7 Try.f7 Rows.choiceFairSpec Rows.choiceFairRow = true := by
  unfold joinedFacts
  repeat' (with_reducible refine Bool.and_eq_true_iff.2 ⟨?_, ?_⟩)
  all_goals (as_aux_lemma => kernel_rfl)
theorem inst : Try.f7.isInstance Try.pinned.checked.prog Rows.choiceFairRow.origin Rows.choiceFairRow.targs := of_decide_eq_true (by kernel_rfl)
theorem wrap : Try.f7.isWrapper Try.pinned.checked.prog Rows.choiceFairRow.wrapper Rows.choiceFairRow.mainSum := by unfold Func.isWrapper; first | (rw [if_pos (by decide +kernel)]; kernel_rfl) | (rw [if_neg (by decide +kernel)]; exact ⟨rfl, rfl⟩)

theorem over : Rows.choiceFairRow.holds Try.pinned (OpenSpec.ofChange Rows.choiceFairSpec) :=
  OpenClaim.holds_of_wide 7 Try.f7 rfl rfl rfl rfl rfl rfl rfl ⟨rfl, rfl, rfl, rfl, rfl⟩ rfl rfl rfl rfl rfl named Try.func7 closed inst wrap
    (fun os started H enc _ => lifted os started H enc)
end Go.Proofs.Ytcibnfjpagmdaaa.choiceFair
namespace Go.Proofs.Ytcibnfjpagmdaaa
theorem choiceFair_holds : Rows.ChoiceFairSaid := choiceFair.over
end Go.Proofs.Ytcibnfjpagmdaaa
