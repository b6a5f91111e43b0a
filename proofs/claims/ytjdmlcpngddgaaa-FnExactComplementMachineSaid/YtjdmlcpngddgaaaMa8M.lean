/- Proved: FnExactComplementMachine, the statement that the program's ComplementMachine returns what the reference's returns, for all arguments; no condition. -/
import Derived.Test.YtjdmlcpngddgaaaMa8
import Derived.Test.YtjdmlcpngddgaaaRows
import Derived.WalkKit
set_option linter.unusedVariables false
set_option linter.unusedSimpArgs false
set_option maxRecDepth 20000
namespace Go.Proofs.Ytjdmlcpngddgaaa
open Go Go.Al Go.Proofs Go.Proofs.Ma Go.ChangeShapes Go.WideShapes Go.ChangeAt Go.RowKit

theorem keyFnExactComplementMachine : ∀ dss : List (List D), TypedAll Try.prog Try.f7.params.toList dss → ACall Try.prog 0 7 (argAVs Try.prog Try.f7.params.toList dss) (hpL []) (.bool true) (hpL [])
  | [a], h => by
    obtain ⟨x, rfl⟩ := typedMachine h.1
    have e : argAVs Try.prog Try.f7.params.toList [x.enc] = [.agg (x.enc.map (MD .st))] := by
      show [argAV Try.prog 37 x.enc] = _
      rw [argAV_struct fldMachine]
    rw [e]
    exact c_law7 x

theorem own : ownKnob Try.checked.prog.godebug = none := by kernel_rfl
set_option maxRecDepth 100000 in
theorem liftedFnExactComplementMachine (os : Os) (started : os.Started) (H : Type) (enc : TypeId × Value → H) :
    ReturnsInHanded {} Try.checked os 7 .any (Rows.fnExactComplementMachineSpec.pre6 enc Try.prog Try.f7 Rows.fnExactComplementMachineRow.domain false) (Rows.fnExactComplementMachineSpec.post enc Try.prog Try.f7 false true false false) := by
  refine returnsInHanded_of_change (C := Try.checked) own started (by kernel_rfl) Try.func7
    (ChangeSpec.witness6 (enc := enc) (C := Try.checked) false ⟨#[], #[.agg #[.int .i64 0, .int .i64 0, .slice none 0 0, .slice none 0 0]], []⟩ 8 (by kernel_rfl) (by kernel_rfl) (by kernel_rfl) (by kernel_rfl)) ?_
  intro W base args ds gs before hval hW _ _
  have mem : ∀ t ∈ Try.f7.params.toList, t ∈ [3, 4, 34, 35, 37, 117] := by
    intro t ht
    have h2 : t ∈ [37] := ht
    simp only [List.mem_cons, List.not_mem_nil, or_false] at h2
    subst h2 <;> simp
  exact law_of (P := Try.prog) (tys := [3, 4, 34, 35, 37, 117]) (by kernel_rfl) mem (by kernel_rfl) (by
      intro t ht
      have h2 : t ∈ [37] := ht
      simp only [List.mem_cons, List.not_mem_nil, or_false] at h2
      subst h2 <;> exact ⟨by kernel_rfl, Nat.le_of_ble_eq_true (by kernel_rfl)⟩) (bt := 4) (by kernel_rfl) (by kernel_rfl) rfl (fun ds h => by
      match ds, h with
      | [a0], _ => rfl) keyFnExactComplementMachine W base args ds gs before hval hW
theorem overFnExactComplementMachine : Rows.fnExactComplementMachineRow.holds Try.pinned (OpenSpec.ofChange Rows.fnExactComplementMachineSpec) :=
  OpenClaim.holds_of_wide 7 Try.f7 rfl rfl rfl rfl rfl rfl rfl ⟨rfl, rfl, rfl, rfl, rfl⟩ rfl rfl rfl rfl rfl (by kernel_rfl) Try.func7 (by kernel_rfl)
    (of_decide_eq_true (by kernel_rfl)) (by unfold Func.isWrapper; first | (rw [if_pos (by decide +kernel)]; kernel_rfl) | (rw [if_neg (by decide +kernel)]; exact ⟨rfl, rfl⟩))
    (fun os started H enc _ => liftedFnExactComplementMachine os started H enc)
theorem holdsFnExactComplementMachine : Rows.FnExactComplementMachineSaid := overFnExactComplementMachine
end Go.Proofs.Ytjdmlcpngddgaaa
