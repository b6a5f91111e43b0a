/- Proved: FnExactProductMachine, the statement that the program's ProductMachine returns what the reference's returns, for all arguments; no condition. -/
import Derived.Test.YtjdmlcpngddgaaaMa12
import Derived.Test.YtjdmlcpngddgaaaRows
import Derived.WalkKit
set_option linter.unusedVariables false
set_option linter.unusedSimpArgs false
set_option maxRecDepth 20000
namespace Go.Proofs.Ytjdmlcpngddgaaa
open Go Go.Al Go.Proofs Go.Proofs.Ma Go.ChangeShapes Go.WideShapes Go.ChangeAt Go.RowKit

theorem keyFnExactProductMachine : ∀ dss : List (List D), TypedAll Try.prog Try.f8.params.toList dss → ACall Try.prog 0 8 (argAVs Try.prog Try.f8.params.toList dss) (hpL []) (.bool true) (hpL [])
  | [a, b, c], h => by
    obtain ⟨x, rfl⟩ := typedMachine h.1
    obtain ⟨y, rfl⟩ := typedMachine h.2.1
    obtain ⟨sm, rfl⟩ := typed_bool h.2.2.1 undBool
    have e : argAVs Try.prog Try.f8.params.toList [x.enc, y.enc, [.bool sm]] = [.agg (x.enc.map (MD .st)), .agg (y.enc.map (MD .st)), .bool sm] := by
      show [argAV Try.prog 37 x.enc, argAV Try.prog 37 y.enc, argAV Try.prog 4 [.bool sm]] = _
      rw [argAV_struct fldMachine, argAV_struct fldMachine]
      unfold argAV
      rw [undBool]
      rfl
    rw [e]
    exact c_law8 x y sm

theorem own : ownKnob Try.checked.prog.godebug = none := by kernel_rfl
set_option maxRecDepth 100000 in
theorem liftedFnExactProductMachine (os : Os) (started : os.Started) (H : Type) (enc : TypeId × Value → H) :
    ReturnsInHanded {} Try.checked os 8 .any (Rows.fnExactProductMachineSpec.pre6 enc Try.prog Try.f8 Rows.fnExactProductMachineRow.domain false) (Rows.fnExactProductMachineSpec.post enc Try.prog Try.f8 false true false false) := by
  refine returnsInHanded_of_change (C := Try.checked) own started (by kernel_rfl) Try.func8
    (ChangeSpec.witness6 (enc := enc) (C := Try.checked) false ⟨#[], #[.agg #[.int .i64 0, .int .i64 0, .slice none 0 0, .slice none 0 0], .agg #[.int .i64 0, .int .i64 0, .slice none 0 0, .slice none 0 0], .bool false], []⟩ 8 (by kernel_rfl) (by kernel_rfl) (by kernel_rfl) (by kernel_rfl)) ?_
  intro W base args ds gs before hval hW _ _
  have mem : ∀ t ∈ Try.f8.params.toList, t ∈ [3, 4, 34, 35, 37, 117] := by
    intro t ht
    have h2 : t ∈ [37, 37, 4] := ht
    simp only [List.mem_cons, List.not_mem_nil, or_false] at h2
    rcases h2 with rfl | rfl | rfl <;> simp
  exact law_of (P := Try.prog) (tys := [3, 4, 34, 35, 37, 117]) (by kernel_rfl) mem (by kernel_rfl) (by
      intro t ht
      have h2 : t ∈ [37, 37, 4] := ht
      simp only [List.mem_cons, List.not_mem_nil, or_false] at h2
      rcases h2 with rfl | rfl | rfl <;> exact ⟨by kernel_rfl, Nat.le_of_ble_eq_true (by kernel_rfl)⟩) (bt := 4) (by kernel_rfl) (by kernel_rfl) rfl (fun ds h => by
      match ds, h with
      | [a0, a1, a2], _ => rfl) keyFnExactProductMachine W base args ds gs before hval hW
theorem overFnExactProductMachine : Rows.fnExactProductMachineRow.holds Try.pinned (OpenSpec.ofChange Rows.fnExactProductMachineSpec) :=
  OpenClaim.holds_of_wide 8 Try.f8 rfl rfl rfl rfl rfl rfl rfl ⟨rfl, rfl, rfl, rfl, rfl⟩ rfl rfl rfl rfl rfl (by kernel_rfl) Try.func8 (by kernel_rfl)
    (of_decide_eq_true (by kernel_rfl)) (by unfold Func.isWrapper; first | (rw [if_pos (by decide +kernel)]; kernel_rfl) | (rw [if_neg (by decide +kernel)]; exact ⟨rfl, rfl⟩))
    (fun os started H enc _ => liftedFnExactProductMachine os started H enc)
theorem holdsFnExactProductMachine : Rows.FnExactProductMachineSaid := overFnExactProductMachine
end Go.Proofs.Ytjdmlcpngddgaaa
