/- Proved: FnExactNewSession, the statement that the program's NewSession returns what the reference's returns; no condition. -/
import Derived.Test.YtjdmlcpngddgaaaNs
import Derived.Test.YtjdmlcpngddgaaaRows
import Derived.WalkKit
set_option linter.unusedVariables false
set_option linter.unusedSimpArgs false
set_option maxRecDepth 20000
namespace Go.Proofs.Ytjdmlcpngddgaaa
open Go Go.Al Go.Proofs Go.Proofs.Ns Go.ChangeShapes Go.WideShapes Go.ChangeAt Go.RowKit

theorem keyFnExactNewSession : ∀ dss : List (List D), TypedAll Try.prog Try.f12.params.toList dss → ACall Try.prog 0 12 (argAVs Try.prog Try.f12.params.toList dss) (hpL []) (.bool true) (hpL [])
  | [], _ => c_law12

theorem own : ownKnob Try.checked.prog.godebug = none := by kernel_rfl
set_option maxRecDepth 100000 in
theorem liftedFnExactNewSession (os : Os) (started : os.Started) (H : Type) (enc : TypeId × Value → H) :
    ReturnsInHanded {} Try.checked os 12 .any (Rows.fnExactNewSessionSpec.pre6 enc Try.prog Try.f12 Rows.fnExactNewSessionRow.domain false) (Rows.fnExactNewSessionSpec.post enc Try.prog Try.f12 false true false false) := by
  refine returnsInHanded_of_change (C := Try.checked) own started (by kernel_rfl) Try.func12
    (ChangeSpec.witness6 (enc := enc) (C := Try.checked) false ⟨#[], #[], []⟩ 8 (by kernel_rfl) (by kernel_rfl) (by kernel_rfl) (by kernel_rfl)) ?_
  intro W base args ds gs before hval hW _ _
  have mem : ∀ t ∈ Try.f12.params.toList, t ∈ [3] := by
    intro t ht
    have h2 : t ∈ ([] : List Nat) := ht
    simp at h2
  exact law_of (P := Try.prog) (tys := [3]) (by kernel_rfl) mem (by kernel_rfl) (by
      intro t ht
      have h2 : t ∈ ([] : List Nat) := ht
      simp at h2) (bt := 4) (by kernel_rfl) (by kernel_rfl) rfl (fun ds h => by
      match ds, h with
      | [], _ => rfl) keyFnExactNewSession W base args ds gs before hval hW
theorem overFnExactNewSession : Rows.fnExactNewSessionRow.holds Try.pinned (OpenSpec.ofChange Rows.fnExactNewSessionSpec) :=
  OpenClaim.holds_of_wide 12 Try.f12 rfl rfl rfl rfl rfl rfl rfl ⟨rfl, rfl, rfl, rfl, rfl⟩ rfl rfl rfl rfl rfl (by kernel_rfl) Try.func12 (by kernel_rfl)
    (of_decide_eq_true (by kernel_rfl)) (by unfold Func.isWrapper; first | (rw [if_pos (by decide +kernel)]; kernel_rfl) | (rw [if_neg (by decide +kernel)]; exact ⟨rfl, rfl⟩))
    (fun os started H enc _ => liftedFnExactNewSession os started H enc)
theorem holdsFnExactNewSession : Rows.FnExactNewSessionSaid := overFnExactNewSession
end Go.Proofs.Ytjdmlcpngddgaaa
