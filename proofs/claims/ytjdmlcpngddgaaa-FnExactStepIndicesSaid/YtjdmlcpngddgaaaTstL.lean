/- Part of a proof over the seat Ytjdmlcpngddgaaa: what the text lends is said at its theorems. -/
import Derived.Test.YtjdmlcpngddgaaaTstK
import Derived.Test.YtjdmlcpngddgaaaTstJ
namespace Go.Proofs.Tst
open Go Go.Al Go.Proofs
theorem encL_map (xs : List Idx) : encL xs = xs.map enc := by
  induction xs with
  | nil => rfl
  | cons x xs ih => simp [encL, ih]
theorem WL_all {B : Nat} : ∀ {xs : List Idx}, (∀ x ∈ xs, WI x B) → WL xs B
  | [], _ => by simp [WL]
  | x :: xs, h => by rw [WL]; exact ⟨h x (by simp), WL_all fun y hy => h y (by simp [hy])⟩
theorem fld24 : fldTys Try.prog 24 = some [3, 3, 22] := by kernel_rfl
theorem und3 : Try.prog.underlying 3 = some (.int .i64) := by kernel_rfl
theorem und22 : Try.prog.underlying 22 = some (.slice 24) := by kernel_rfl
theorem typed24 (ds : List D) (h : Typed Try.prog 24 ds) : ∃ x, ds = enc x ∧ WI x 9223372036854775807 := by
  obtain ⟨a, b, rfl, ha, c, d, rfl, hc, e, f, rfl, he, rfl⟩ := typed_struct h fld24
  obtain ⟨op, rfl, _⟩ := typed_int ha und3
  obtain ⟨n, rfl, _⟩ := typed_int hc und3
  obtain ⟨xs, rfl, hl, hx⟩ := typed_sl he und22
  obtain ⟨ks, rfl, hk⟩ := list_enc (X := Idx) (E := enc) (W := fun x => WI x 9223372036854775807) (xs := xs) fun cs hcs => typed24 cs (hx cs hcs)
  refine ⟨.mk op n ks, by simp [enc, encL_map], ?_⟩
  rw [WI]
  exact ⟨by simpa [maxLen] using hl, WL_all hk⟩
termination_by SizeOf.sizeOf ds
decreasing_by
  have := sizeOf_cells hcs
  simp_all
  omega
end Go.Proofs.Tst
