/- Proved: FnExactIsMachine, the statement that the program's IsMachine returns what the reference's returns, for all arguments; no condition. -/
import Derived.Test.YtjdmlcpngddgaaaMa4
import Derived.Test.YtjdmlcpngddgaaaRows
import Derived.WalkKit
namespace Go.Proofs.Ytjdmlcpngddgaaa
open Go Go.Al Go.Proofs Go.Proofs.Ma Go.ChangeShapes Go.WideShapes Go.ChangeAt Go.RowKit

theorem keyFnExactIsMachine : ∀ dss : List (List D), TypedAll Try.prog Try.f5.params.toList dss → ACall Try.prog 0 5 (argAVs Try.prog Try.f5.params.toList dss) (hpL []) (.bool true) (hpL [])
  | [a], h => by
    obtain ⟨x, rfl⟩ := typedMachine h.1
    have e : argAVs Try.prog Try.f5.params.toList [x.enc] = [.agg (x.enc.map (MD .st))] := by
      show [argAV Try.prog 37 x.enc] = _
      rw [argAV_struct fldMachine]
    rw [e]
    exact c_law5 x

theorem own : ownKnob Try.checked.prog.godebug = none := by kernel_rfl
set_option maxRecDepth 100000 in
theorem liftedFnExactIsMachine (os : Os) (started : os.Started) (H : Type) (enc : TypeId × Value → H) :
    ReturnsInHanded {} Try.checked os 5 .any (Rows.fnExactIsMachineSpec.pre6 enc Try.prog Try.f5 Rows.fnExactIsMachineRow.domain false) (Rows.fnExactIsMachineSpec.post enc Try.prog Try.f5 false true false false) := by
  refine returnsInHanded_of_change (C := Try.checked) own started (by kernel_rfl) Try.func5
    (ChangeSpec.witness6 (enc := enc) (C := Try.checked) false ⟨#[], #[.agg #[.int .i64 0, .int .i64 0, .slice none 0 0, .slice none 0 0]], []⟩ 8 (by kernel_rfl) (by kernel_rfl) (by kernel_rfl) (by kernel_rfl)) ?_
  intro W base args ds gs before hval hW _ _
  have mem : ∀ t ∈ Try.f5.params.toList, t ∈ [3, 4, 34, 35, 37, 117] := by
    intro t ht
    have h2 : t ∈ [37] := ht
    simp only [List.mem_cons, List.not_mem_nil, or_false] at h2
    subst h2 <;> simp
  exact law_of (P := Try.prog) (tys := [3, 4, 34, 35, 37, 117]) (by kernel_rfl) mem (by kernel_rfl) (by
      intro t ht
      have h2 : t ∈ [37] := ht
      simp only [List.mem_cons, List.not_mem_nil, or_false] at h2
      subst h2 <;> exact ⟨by kernel_rfl, Nat.le_of_ble_eq_true (by kernel_rfl)⟩) (bt := 4) (by kernel_rfl) (by kernel_rfl) rfl (fun ds h => by
      match ds, h with
      | [a0], _ => rfl) keyFnExactIsMachine W base args ds gs before hval hW
theorem overFnExactIsMachine : Rows.fnExactIsMachineRow.holds Try.pinned (OpenSpec.ofChange Rows.fnExactIsMachineSpec) :=
  OpenClaim.holds_of_wide 5 Try.f5 rfl rfl rfl rfl rfl rfl rfl ⟨rfl, rfl, rfl, rfl, rfl⟩ rfl rfl rfl rfl rfl (by kernel_rfl) Try.func5 (by kernel_rfl)
    (of_decide_eq_true (by kernel_rfl)) (by unfold Func.isWrapper; first | (rw [if_pos (by decide +kernel)]; kernel_rfl) | (rw [if_neg (by decide +kernel)]; exact ⟨rfl, rfl⟩))
    (fun os started H enc _ => liftedFnExactIsMachine os started H enc)
theorem holdsFnExactIsMachine : Rows.FnExactIsMachineSaid := overFnExactIsMachine
end Go.Proofs.Ytjdmlcpngddgaaa
