/- Proved: FnExactStepIndices, the statement that the program's StepIndices returns what the reference's returns, for all arguments; no condition. -/
import Derived.Test.YtjdmlcpngddgaaaIx9
import Derived.Test.YtjdmlcpngddgaaaRows
import Derived.WalkKit
set_option linter.unusedVariables false
set_option linter.unusedSimpArgs false
set_option maxRecDepth 20000
namespace Go.Proofs.Ytjdmlcpngddgaaa
open Go Go.Al Go.Proofs Go.Proofs.Tst Go.Proofs.Ix Go.ChangeShapes Go.WideShapes Go.ChangeAt Go.RowKit

theorem keyFnExactStepIndices : ∀ dss : List (List D), TypedAll Try.prog Try.f9.params.toList dss → ACall Try.prog 0 9 (argAVs Try.prog Try.f9.params.toList dss) (hpL []) (.bool true) (hpL [])
  | [a], h => by
    obtain ⟨x, rfl, hx⟩ := typed24 a h.1
    have e : argAVs Try.prog Try.f9.params.toList [enc x] = [.agg ((enc x).map (MD .st))] := by
      show [argAV Try.prog 24 (enc x)] = _
      rw [argAV_struct fld24]
    rw [e]
    exact c_law9 x hx

theorem own : ownKnob Try.checked.prog.godebug = none := by kernel_rfl
set_option maxRecDepth 100000 in
theorem liftedFnExactStepIndices (os : Os) (started : os.Started) (H : Type) (enc : TypeId × Value → H) :
    ReturnsInHanded {} Try.checked os 9 .any (Rows.fnExactStepIndicesSpec.pre6 enc Try.prog Try.f9 Rows.fnExactStepIndicesRow.domain false) (Rows.fnExactStepIndicesSpec.post enc Try.prog Try.f9 false true false false) := by
  refine returnsInHanded_of_change (C := Try.checked) own started (by kernel_rfl) Try.func9
    (ChangeSpec.witness6 (enc := enc) (C := Try.checked) false ⟨#[], #[.agg #[.int .i64 0, .int .i64 0, .slice none 0 0]], []⟩ 8 (by kernel_rfl) (by kernel_rfl) (by kernel_rfl) (by kernel_rfl)) ?_
  intro W base args ds gs before hval hW _ _
  have mem : ∀ t ∈ Try.f9.params.toList, t ∈ [3, 22, 24] := by
    intro t ht
    have h2 : t ∈ ([24] : List Nat) := ht
    simp only [List.mem_cons, List.not_mem_nil, or_false] at h2; subst h2 <;> simp
  exact law_of (P := Try.prog) (tys := [3, 22, 24]) (by kernel_rfl) mem (by kernel_rfl) (by
      intro t ht
      have h2 : t ∈ ([24] : List Nat) := ht
      simp only [List.mem_cons, List.not_mem_nil, or_false] at h2; subst h2 <;> exact ⟨by kernel_rfl, Nat.le_of_ble_eq_true (by kernel_rfl)⟩) (bt := 4) (by kernel_rfl) (by kernel_rfl) rfl (fun ds h => by
      match ds, h with
      | [a0], _ => rfl) keyFnExactStepIndices W base args ds gs before hval hW
theorem overFnExactStepIndices : Rows.fnExactStepIndicesRow.holds Try.pinned (OpenSpec.ofChange Rows.fnExactStepIndicesSpec) :=
  OpenClaim.holds_of_wide 9 Try.f9 rfl rfl rfl rfl rfl rfl rfl ⟨rfl, rfl, rfl, rfl, rfl⟩ rfl rfl rfl rfl rfl (by kernel_rfl) Try.func9 (by kernel_rfl)
    (of_decide_eq_true (by kernel_rfl)) (by unfold Func.isWrapper; first | (rw [if_pos (by decide +kernel)]; kernel_rfl) | (rw [if_neg (by decide +kernel)]; exact ⟨rfl, rfl⟩))
    (fun os started H enc _ => liftedFnExactStepIndices os started H enc)
theorem holdsFnExactStepIndices : Rows.FnExactStepIndicesSaid := overFnExactStepIndices
end Go.Proofs.Ytjdmlcpngddgaaa
