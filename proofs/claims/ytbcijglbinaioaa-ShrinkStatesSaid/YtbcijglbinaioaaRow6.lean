import Derived.Test.YtbcijglbinaioaaRows
import Derived.Test.YtbcijglbinaioaaF1
import Derived.Test.YtbcijglbinaioaaEv21
import Derived.WalkKit
import Derived.ProofKit
import Derived.OpenShut
import Derived.ChangeOld
import Derived.Below
import Derived.SizedLaws
namespace Go.Proofs.Ytbcijglbinaioaa.shrinkStates
open Go.ChangeShapes Go.WideShapes Go.ChangeAt Go.RowKit Go.Proofs.Ytbcijglbinaioaa.Ev
theorem own : ownKnob Try.prog.godebug = none := by kernel_rfl
theorem laidOut : laidOutB Try.prog = true := by kernel_rfl
def shape : List (Bool × Ty) := [(true, .pair (.int .i64) (.pair (.slice (.pair (.int .i64) (.int .i64))) (.pair (.slice (.pair (.int .i64) (.int .i64))) (.pair (.slice (.int .i64)) (.slice (.int .i64)))))), (false, .slice .bool), (false, .slice .bool), (false, (.slice (.int .i64)))]
theorem argsB : argB Try.prog Try.f6.params.toList shape = true := by kernel_rfl
set_option maxRecDepth 100000 in
theorem lifted (os : Os) (started : os.Started) (H : Type) (enc : TypeId × Value → H) (pure : ∀ y : dens shape, WfA shape y → ∃ x, e6.val (argsOf shape y) = some x ∧ e6.av x = .bool true) :
    ReturnsInHanded {} Try.checked os 6 .any (Rows.shrinkStatesSpec.pre6 enc Try.prog Try.f6 Rows.shrinkStatesRow.domain false) (Rows.shrinkStatesSpec.post enc Try.prog Try.f6 false true false false) := by
  refine returnsInHanded_of_change_sized (C := Try.checked) own started (by kernel_rfl) Try.func6
    (ChangeSpec.witness6 (enc := enc) (C := Try.checked) false ⟨#[], #[.agg #[.int .i64 0, .slice none 0 0, .slice none 0 0, .slice none 0 0, .slice none 0 0], .slice none 0 0, .slice none 0 0, .slice none 0 0], []⟩ 8 (by kernel_rfl) (by kernel_rfl) (by kernel_rfl) (by kernel_rfl)) ?_
  intro W base args ds gs before hval hW _ _ _
  have hW' := hW
  obtain ⟨p, q, hA, hV, rfl, hfz, hnd⟩ := hW
  have hA' : DataW.TrodAll enc Try.prog W 0 (fun _ => true) true Try.f6.params.toList args.toList ds p := hA
  refine (law_calls (P := Try.prog) (enc := enc) (base := base) e6_ok laidOut argsB pure hval hA').mono fun e W' ⟨he, bel, hback⟩ => ?_
  subst he
  have hlen : ds.length = 4 := by
    rw [trodAll_len _ _ _ _ hA']
    kernel_rfl
  obtain ⟨d0, d1, d2, d3, rfl⟩ : ∃ d0 d1 d2 d3, ds = [d0, d1, d2, d3] := by
    rcases ds with _ | ⟨d0, ds⟩ <;> first | (simp at hlen; done) | skip
    rcases ds with _ | ⟨d1, ds⟩ <;> first | (simp at hlen; done) | skip
    rcases ds with _ | ⟨d2, ds⟩ <;> first | (simp at hlen; done) | skip
    rcases ds with _ | ⟨d3, ds⟩ <;> first | (simp at hlen; done) | skip
    rcases ds with _ | ⟨_, ds⟩ <;> first | (simp at hlen; done) | exact ⟨_, _, _, _, rfl⟩
  obtain ⟨rfl, rfl⟩ := trodVars_none hV
  exact ⟨_, rfl, _, _, _, [], _, [], hW', trodAll_mk1 (shut_bool (by kernel_rfl) _), hback, rfl, bel.frame _, fun h => by cases h⟩
theorem over (pure : ∀ y : dens shape, WfA shape y → ∃ x, e6.val (argsOf shape y) = some x ∧ e6.av x = .bool true) : Rows.shrinkStatesRow.holds Try.pinned (OpenSpec.ofChange Rows.shrinkStatesSpec) :=
  OpenClaim.holds_of_wide 6 Try.f6 rfl rfl rfl rfl rfl rfl rfl ⟨rfl, rfl, rfl, rfl, rfl⟩ rfl rfl rfl rfl rfl (by kernel_rfl) Try.func6 (by kernel_rfl)
    (of_decide_eq_true (by kernel_rfl)) (by unfold Func.isWrapper; first | (rw [if_pos (by decide +kernel)]; kernel_rfl) | (rw [if_neg (by decide +kernel)]; exact ⟨rfl, rfl⟩))
    (fun os started H enc _ => lifted os started H enc pure)
end Go.Proofs.Ytbcijglbinaioaa.shrinkStates

