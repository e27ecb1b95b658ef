/- LatchNew: whatever the input, the law returns true and its arguments stand: what is refused, and things that are none, on a run under a gate. No condition. -/
import Derived.Test.YtcibnfjpagmdaaaRows
import Derived.Test.YtcibnfjpagmdaaaNew5
import Derived.Test.YtcibnfjpagmdaaaLatchNewC
import Derived.Test.YtcibnfjpagmdaaaPost
import Derived.WalkKit
import Derived.ProofKit
import Derived.Conc.HoldsTime
namespace Go.Proofs.Ytcibnfjpagmdaaa.latchNew
open Go.ChangeShapes Go.WideShapes Go.ChangeAt Go.RowKit Go.Conc Go.ConcM
set_option linter.unusedVariables false      -- a walk need not use every 'w<i>' (that an integer argument fits its kind)

theorem own : ownKnob Try.prog.godebug = none := by kernel_rfl
theorem wf_small {x : Int} (h : (Lit.int .i64 x).wf = true) : -9223372036854775808 ≤ x ∧ x ≤ 9223372036854775807 := by
  simp [Lit.wf, IntKind.min, IntKind.max, IntKind.signed, IntKind.bits] at h
  omega

set_option maxRecDepth 100000 in
theorem lifted (os : Os) (started : os.Started) (H : Type) (enc : TypeId × Value → H) (F : Stop.Interp) :
    ReturnsInLeavingWide Rows.latchNewRow.assume Try.checked os 16 .any (Rows.latchNewSpec.pre6 enc Try.prog Try.f16 Rows.latchNewRow.domain false) ((OpenSpec.ofChange Rows.latchNewSpec).postWith enc Try.prog Try.f16 F (outsideKept [.timePasses]) false true false) := by
  refine returnsInLeavingWide_of_change_time (C := Try.checked) own started Try.func16
    (ChangeSpec.witness6c (enc := enc) (C := Try.checked) ⟨#[], #[.int .i64 0, .int .i64 0], []⟩ 8 (by kernel_rfl) (by kernel_rfl) (by kernel_rfl) (by kernel_rfl)) ?_
  intro W base args ds gs before hval0 hW _ _ _
  have hval : ∀ (j : Nat) t v, Try.f16.params[j]? = some t → args[j]? = some v → Value.okWide Try.prog W .any base t v := hval0
  have hW' := hW
  obtain ⟨p, q, hA0, hV, rfl, _, _⟩ := hW
  have hA : DataW.TrodAll enc Try.prog W 0 (fun _ => true) true Try.f16.params.toList args.toList ds p := hA0
  rw [Try.params16] at hA hval
  obtain ⟨v0, v1, d0, d1, p0, p1, rfl, rfl, rfl, h0, h1⟩ := trodAll_two hA
  obtain ⟨rfl, rfl⟩ := trodVars_none hV
  obtain ⟨a, rfl, rfl, rfl, wa⟩ := open_int Try.underlying2 (hval 0 2 v0 rfl rfl) h0
  obtain ⟨b, rfl, rfl, rfl, wb⟩ := open_int Try.underlying2 (hval 1 2 v1 rfl rfl) h1
  clear hA0 hval0
  simp only [List.append_nil] at hW'
  have hr := wf_small wa
  refine Go.TX.topX_run (w := W) (Post := fun v W' => Rows.latchNewSpec.post enc Try.prog Try.f16 false true false false W #[.int .i64 a, .int .i64 b] v { W' with os := W.os } ∧ OsLater W.os W'.os)
    (R := fun v σ' w' => v = .bool true ∧ σ' = { Go.TX.cfg0 W with n := (Go.TX.cfg0 W).n + 1 } ∧ Go.TX.Bigger W w') (by kernel_rfl) (latchNew hr.1 hr.2 rfl rfl rfl Nat.one_pos) fun v σ' w' h => ?_
  obtain ⟨rfl, rfl, hB⟩ := h
  refine ⟨rfl, rfl, fun ho hu d => ⟨?_, ?_⟩⟩
  · have hk : Go.TX.Kept W { w'.at d with os := W.os } := ⟨rfl, hu, hB.size, hB.old⟩
    exact Go.TX.post_of_kept (pa := []) (pv := []) hW' (fun _ _ _ => trodAll_cons_mk (shut_bool Try.underlying4 _) trodAll_mk0) (fun _ _ => trodAll_mk2 (shut_int Try.underlying2 wa) (shut_int Try.underlying2 wb)) (fun _ _ => rfl) rfl hk (ok_one (by kernel_rfl) rfl (okWide_bool_mk Try.underlying4 _))
  · have e : (w'.at d).os = W.os := ho
    rw [e]; exact ⟨0, rfl⟩

theorem inst : Try.f16.isInstance Try.pinned.checked.prog Rows.latchNewRow.origin Rows.latchNewRow.targs := of_decide_eq_true (by kernel_rfl)
theorem wrap : Try.f16.isWrapper Try.pinned.checked.prog Rows.latchNewRow.wrapper Rows.latchNewRow.mainSum := by unfold Func.isWrapper; first | (rw [if_pos (by decide +kernel)]; kernel_rfl) | (rw [if_neg (by decide +kernel)]; exact ⟨rfl, rfl⟩)

theorem over : Rows.latchNewRow.holds Try.pinned (OpenSpec.ofChange Rows.latchNewSpec) :=
  OpenClaim.holds_of_wide_leaving_time 16 Try.f16 rfl rfl rfl rfl rfl rfl rfl ⟨rfl, rfl, rfl, rfl, rfl⟩ rfl rfl rfl rfl rfl named Try.func16 closed inst wrap
    (fun os started H enc _ F => lifted os started H enc F)
end Go.Proofs.Ytcibnfjpagmdaaa.latchNew
namespace Go.Proofs.Ytcibnfjpagmdaaa
theorem latchNew_holds : Rows.LatchNewSaid := latchNew.over
end Go.Proofs.Ytcibnfjpagmdaaa
