/- Proved: FnExactIsClosed, the statement that the program's IsClosed returns what the reference's returns, for all arguments; no condition. -/
import Derived.Test.YtjdmlcpngddgaaaIx5
import Derived.Test.YtjdmlcpngddgaaaRows
import Derived.WalkKit
namespace Go.Proofs.Ytjdmlcpngddgaaa
open Go Go.Al Go.Proofs Go.Proofs.Tst Go.Proofs.Ix Go.ChangeShapes Go.WideShapes Go.ChangeAt Go.RowKit

theorem keyFnExactIsClosed : ∀ dss : List (List D), TypedAll Try.prog Try.f6.params.toList dss → ACall Try.prog 0 6 (argAVs Try.prog Try.f6.params.toList dss) (hpL []) (.bool true) (hpL [])
  | [a], h => by
    obtain ⟨x, rfl, hx⟩ := typed24 a h.1
    have e : argAVs Try.prog Try.f6.params.toList [enc x] = [.agg ((enc x).map (MD .st))] := by
      show [argAV Try.prog 24 (enc x)] = _
      rw [argAV_struct fld24]
    rw [e]
    exact c_law6 x hx

theorem own : ownKnob Try.checked.prog.godebug = none := by kernel_rfl
set_option maxRecDepth 100000 in
theorem liftedFnExactIsClosed (os : Os) (started : os.Started) (H : Type) (enc : TypeId × Value → H) :
    ReturnsInHanded {} Try.checked os 6 .any (Rows.fnExactIsClosedSpec.pre6 enc Try.prog Try.f6 Rows.fnExactIsClosedRow.domain false) (Rows.fnExactIsClosedSpec.post enc Try.prog Try.f6 false true false false) := by
  refine returnsInHanded_of_change (C := Try.checked) own started (by kernel_rfl) Try.func6
    (ChangeSpec.witness6 (enc := enc) (C := Try.checked) false ⟨#[], #[.agg #[.int .i64 0, .int .i64 0, .slice none 0 0]], []⟩ 8 (by kernel_rfl) (by kernel_rfl) (by kernel_rfl) (by kernel_rfl)) ?_
  intro W base args ds gs before hval hW _ _
  have mem : ∀ t ∈ Try.f6.params.toList, t ∈ [3, 22, 24] := by
    intro t ht
    have h2 : t ∈ [24] := ht
    simp only [List.mem_cons, List.not_mem_nil, or_false] at h2
    subst h2 <;> simp
  exact law_of (P := Try.prog) (tys := [3, 22, 24]) (by kernel_rfl) mem (by kernel_rfl) (by
      intro t ht
      have h2 : t ∈ [24] := ht
      simp only [List.mem_cons, List.not_mem_nil, or_false] at h2
      subst h2 <;> exact ⟨by kernel_rfl, Nat.le_of_ble_eq_true (by kernel_rfl)⟩) (bt := 4) (by kernel_rfl) (by kernel_rfl) rfl (fun ds h => by
      match ds, h with
      | [a0], _ => rfl) keyFnExactIsClosed W base args ds gs before hval hW
theorem overFnExactIsClosed : Rows.fnExactIsClosedRow.holds Try.pinned (OpenSpec.ofChange Rows.fnExactIsClosedSpec) :=
  OpenClaim.holds_of_wide 6 Try.f6 rfl rfl rfl rfl rfl rfl rfl ⟨rfl, rfl, rfl, rfl, rfl⟩ rfl rfl rfl rfl rfl (by kernel_rfl) Try.func6 (by kernel_rfl)
    (of_decide_eq_true (by kernel_rfl)) (by unfold Func.isWrapper; first | (rw [if_pos (by decide +kernel)]; kernel_rfl) | (rw [if_neg (by decide +kernel)]; exact ⟨rfl, rfl⟩))
    (fun os started H enc _ => liftedFnExactIsClosed os started H enc)
theorem holdsFnExactIsClosed : Rows.FnExactIsClosedSaid := overFnExactIsClosed
end Go.Proofs.Ytjdmlcpngddgaaa
