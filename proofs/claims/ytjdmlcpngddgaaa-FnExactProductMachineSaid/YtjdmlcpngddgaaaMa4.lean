/- Part of a proof over the seat Ytjdmlcpngddgaaa: what the text lends is said at its theorems. -/
import Derived.Test.YtjdmlcpngddgaaaMa3
set_option linter.unusedVariables false
set_option linter.unusedSimpArgs false
set_option maxRecDepth 20000
namespace Go.Proofs.Ma
open Go Go.Al Go.Proofs

theorem fldMachine : fldTys Try.prog 37 = some [3, 3, 34, 35] := by kernel_rfl
theorem fldMove : fldTys Try.prog 117 = some [3, 3] := by kernel_rfl
theorem undInt : Try.prog.underlying 3 = some (.int .i64) := by kernel_rfl
theorem undBool : Try.prog.underlying 4 = some .bool := by kernel_rfl
theorem undBoolS : Try.prog.underlying 34 = some (.slice 4) := by kernel_rfl
theorem undMoveS : Try.prog.underlying 35 = some (.slice 117) := by kernel_rfl
theorem typedMachine {ds : List D} (h : Typed Try.prog 37 ds) : ∃ x : Mach, ds = x.enc := by
  obtain ⟨a, b, rfl, ha, c, d, rfl, hc, e, f, rfl, he, g, i, rfl, hg, rfl⟩ := typed_struct h fldMachine
  obtain ⟨s, rfl, _⟩ := typed_int ha undInt
  obtain ⟨r, rfl, _⟩ := typed_int hc undInt
  obtain ⟨xs, rfl, _, hx⟩ := typed_sl he undBoolS
  obtain ⟨acc, rfl, _⟩ := list_enc (X := Bool) (E := encB) (W := fun _ => True) (xs := xs) fun cs hcs => by
    obtain ⟨b, rfl⟩ := typed_bool (hx cs hcs) undBool
    exact ⟨b, rfl, trivial⟩
  obtain ⟨ys, rfl, _, hy⟩ := typed_sl hg undMoveS
  obtain ⟨mov, rfl, _⟩ := list_enc (X := Mov) (E := Mov.enc) (W := fun _ => True) (xs := ys) fun cs hcs => by
    obtain ⟨a, b, rfl, ha, c, d, rfl, hc, rfl⟩ := typed_struct (hy cs hcs) fldMove
    obtain ⟨p, rfl, _⟩ := typed_int ha undInt
    obtain ⟨q, rfl, _⟩ := typed_int hc undInt
    exact ⟨⟨p, q⟩, rfl, trivial⟩
  exact ⟨⟨s, r, acc, mov⟩, rfl⟩
end Go.Proofs.Ma
