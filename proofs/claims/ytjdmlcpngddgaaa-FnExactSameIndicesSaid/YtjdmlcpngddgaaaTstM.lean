/- Proved: FnExactSameIndices, the statement that the program's SameIndices returns what the reference's returns, for all arguments; no condition. -/
import Derived.Test.YtjdmlcpngddgaaaTstL
import Derived.Test.YtjdmlcpngddgaaaRows
import Derived.WalkKit
namespace Go.Proofs.Ytjdmlcpngddgaaa
open Go Go.Al Go.Proofs Go.Proofs.Tst Go.ChangeShapes Go.WideShapes Go.ChangeAt Go.RowKit

theorem key3 : ∀ dss : List (List D), TypedAll Try.prog Try.f3.params.toList dss → ACall Try.prog 0 3 (argAVs Try.prog Try.f3.params.toList dss) (hpL []) (.bool true) (hpL [])
  | [a, b], h => by
    obtain ⟨x, rfl, hx⟩ := typed24 a h.1
    obtain ⟨y, rfl, hy⟩ := typed24 b h.2.1
    have e : argAVs Try.prog Try.f3.params.toList [enc x, enc y] = [.agg ((enc x).map (MD .st)), .agg ((enc y).map (MD .st))] := by
      show [argAV Try.prog 24 (enc x), argAV Try.prog 24 (enc y)] = _
      rw [argAV_struct fld24, argAV_struct fld24]
    rw [e]
    exact a3 x y hx hy

theorem own : ownKnob Try.checked.prog.godebug = none := by kernel_rfl
set_option maxRecDepth 100000 in
theorem lifted3 (os : Os) (started : os.Started) (H : Type) (enc : TypeId × Value → H) :
    ReturnsInHanded {} Try.checked os 3 .any (Rows.fnExactSameIndicesSpec.pre6 enc Try.prog Try.f3 Rows.fnExactSameIndicesRow.domain false) (Rows.fnExactSameIndicesSpec.post enc Try.prog Try.f3 false true false false) := by
  refine returnsInHanded_of_change (C := Try.checked) own started (by kernel_rfl) Try.func3
    (ChangeSpec.witness6 (enc := enc) (C := Try.checked) false ⟨#[], #[.agg #[.int .i64 0, .int .i64 0, .slice none 0 0], .agg #[.int .i64 0, .int .i64 0, .slice none 0 0]], []⟩ 8 (by kernel_rfl) (by kernel_rfl) (by kernel_rfl) (by kernel_rfl)) ?_
  intro W base args ds gs before hval hW _ _
  exact law_of (P := Try.prog) (tys := [3, 22, 24]) (by kernel_rfl) (by intro t ht; have : t ∈ [24, 24] := ht; simp at this; subst this; simp) (by kernel_rfl) (by intro t ht; have : t ∈ [24, 24] := ht; simp at this; subst this; exact ⟨by kernel_rfl, Nat.le_of_ble_eq_true (by kernel_rfl)⟩)
    (bt := 4) (by kernel_rfl) (by kernel_rfl) rfl (fun ds h => by
      match ds, h with
      | [a, b], _ => rfl) key3 W base args ds gs before hval hW

theorem over3 : Rows.fnExactSameIndicesRow.holds Try.pinned (OpenSpec.ofChange Rows.fnExactSameIndicesSpec) :=
  OpenClaim.holds_of_wide 3 Try.f3 rfl rfl rfl rfl rfl rfl rfl ⟨rfl, rfl, rfl, rfl, rfl⟩ rfl rfl rfl rfl rfl (by kernel_rfl) Try.func3 (by kernel_rfl)
    (of_decide_eq_true (by kernel_rfl)) (by unfold Func.isWrapper; first | (rw [if_pos (by decide +kernel)]; kernel_rfl) | (rw [if_neg (by decide +kernel)]; exact ⟨rfl, rfl⟩))
    (fun os started H enc _ => lifted3 os started H enc)
theorem proved : Rows.FnExactSameIndicesSaid := over3
end Go.Proofs.Ytjdmlcpngddgaaa
