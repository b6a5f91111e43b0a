/- Part of a proof over the seat Ytjdmlcpngddgaaa: what the text lends is said at its theorems. -/
import Derived.Test.YtjdmlcpngddgaaaTstI
namespace Go.Proofs.Tst
open Go Go.Al Go.Proofs

mutual
theorem a15 : ∀ (x : Idx), WI x 1048576 → ∀ op n ks, x = .mk op n ks → ACall Try.prog 0 15 [.agg ((enc x).map (MD .st))] (hpL []) (.agg [.int .i64 op, .int .i64 n, .sl (.inn 3) (encL ks)]) (hpL [])
  | .mk op n ks, hw, op', n', ks', e => by
    cases e
    rw [WI] at hw
    refine c15 (c50 hw.1 fun x hx => ?_)
    obtain ⟨op, n, kk⟩ := x
    exact a15L ks hw.2 _ hx op n kk rfl
theorem a15L : ∀ (xs : List Idx), WL xs 1048576 → ∀ x ∈ xs, ∀ op n ks, x = .mk op n ks → ACall Try.prog 0 15 [.agg ((enc x).map (MD .st))] (hpL []) (.agg [.int .i64 op, .int .i64 n, .sl (.inn 3) (encL ks)]) (hpL [])
  | [], _, x, hx => by simp at hx
  | y :: ys, hw, x, hx => by
    rw [WL] at hw
    rcases List.mem_cons.1 hx with h | h
    · rw [h]; exact a15 y hw.1
    · exact a15L ys hw.2 x h
end

theorem WL_mem : ∀ {xs : List Idx} {B : Nat}, WL xs B → ∀ x ∈ xs, WI x B
  | [], _, _, x, hx => by simp at hx
  | y :: ys, B, h, x, hx => by
    rw [WL] at h
    rcases List.mem_cons.1 hx with e | e
    · rw [e]; exact h.1
    · exact WL_mem h.2 x e

mutual
theorem a49 : ∀ (x : Idx), WI x 1048576 → ∀ y, WI y 1048576 → ACall Try.prog 0 49 [.agg ((enc x).map (MD .st)), .agg ((enc y).map (MD .st))] (hpL []) (.bool (sameI x y)) (hpL [])
  | .mk op n ks, hw, .mk op' n' ks', hw' => by
    rw [WI] at hw hw'
    exact c49 hw.1 hw'.1 fun i x y hx hy => a49L ks hw.2 x (List.mem_of_getElem? hx) y (WL_mem hw'.2 y (List.mem_of_getElem? hy))
theorem a49L : ∀ (xs : List Idx), WL xs 1048576 → ∀ x ∈ xs, ∀ y, WI y 1048576 → ACall Try.prog 0 49 [.agg ((enc x).map (MD .st)), .agg ((enc y).map (MD .st))] (hpL []) (.bool (sameI x y)) (hpL [])
  | [], _, x, hx => by simp at hx
  | z :: zs, hw, x, hx => by
    rw [WL] at hw
    rcases List.mem_cons.1 hx with h | h
    · rw [h]; exact a49 z hw.1
    · exact a49L zs hw.2 x h
end
mutual
theorem a16 : ∀ (x : Idx), WI x 1048576 → ∀ y, WI y 1048576 → ACall Try.prog 0 16 [.agg ((enc x).map (MD .st)), .agg ((enc y).map (MD .st))] (hpL []) (.bool (sameI x y)) (hpL [])
  | .mk op n ks, hw, .mk op' n' ks', hw' => by
    rw [WI] at hw hw'
    exact c16 (c51 (by omega) fun i x y hx hy => a16L ks hw.2 x (List.mem_of_getElem? hx) y (WL_mem hw'.2 y (List.mem_of_getElem? hy)))
theorem a16L : ∀ (xs : List Idx), WL xs 1048576 → ∀ x ∈ xs, ∀ y, WI y 1048576 → ACall Try.prog 0 16 [.agg ((enc x).map (MD .st)), .agg ((enc y).map (MD .st))] (hpL []) (.bool (sameI x y)) (hpL [])
  | [], _, x, hx => by simp at hx
  | z :: zs, hw, x, hx => by
    rw [WL] at hw
    rcases List.mem_cons.1 hx with h | h
    · rw [h]; exact a16 z hw.1
    · exact a16L zs hw.2 x h
end
mutual
theorem a17 : ∀ (x : Idx), WI x 1048576 → ∀ y, WI y 1048576 → ACall Try.prog 0 17 [.agg ((enc x).map (MD .st)), .agg ((enc y).map (MD .st))] (hpL []) (.bool (sameI x y)) (hpL [])
  | .mk op n ks, hw, .mk op' n' ks', hw' => by
    rw [WI] at hw hw'
    exact c17 (c52 (by omega) fun i x y hx hy => a17L ks hw.2 x (List.mem_of_getElem? hx) y (WL_mem hw'.2 y (List.mem_of_getElem? hy)))
theorem a17L : ∀ (xs : List Idx), WL xs 1048576 → ∀ x ∈ xs, ∀ y, WI y 1048576 → ACall Try.prog 0 17 [.agg ((enc x).map (MD .st)), .agg ((enc y).map (MD .st))] (hpL []) (.bool (sameI x y)) (hpL [])
  | [], _, x, hx => by simp at hx
  | z :: zs, hw, x, hx => by
    rw [WL] at hw
    rcases List.mem_cons.1 hx with h | h
    · rw [h]; exact a17 z hw.1
    · exact a17L zs hw.2 x h
end
mutual
theorem same_refl : ∀ x : Idx, sameI x x = true
  | .mk op n ks => by rw [sameI]; simp [sameL_refl ks]
theorem sameL_refl : ∀ xs : List Idx, sameL xs xs = true
  | [] => by simp [sameL]
  | x :: xs => by rw [sameL, same_refl x, sameL_refl xs]; rfl
end

theorem a3 (x y : Idx) (hx : WI x 9223372036854775807) (hy : WI y 9223372036854775807) : ACall Try.prog 0 3 [.agg ((enc x).map (MD .st)), .agg ((enc y).map (MD .st))] (hpL []) (.bool true) (hpL []) := by
  refine c3 (r1 := szI x 1048576) (r2 := szI y (szI x 1048576)) (b := sameI x y) (a13 x hx _ (by omega) (by omega)) (fun h => ?_) (fun h1 h2 => ?_)
  · refine a13 y hy _ h ?_
    rcases szI_le x 1048576 with h1 | h1 <;> omega
  · have wx := szI_small x 1048576 1048576 (by omega) h1
    have wy := szI_small y (szI x 1048576) 1048576 (by rcases szI_le x 1048576 with h1 | h1 <;> omega) h2
    obtain ⟨op, n, ks⟩ := x
    obtain ⟨op', n', ks'⟩ := y
    refine ⟨op, n, ks, op', n', ks', rfl, rfl, a15 _ wx _ _ _ rfl, a15 _ wy _ _ _ rfl, c14 (a49 _ wx _ wy), a16 _ wx _ wy, ?_, ?_⟩
    · have := a17 _ wx _ wx
      rw [same_refl] at this; exact this
    · have := a17 _ wy _ wy
      rw [same_refl] at this; exact this
end Go.Proofs.Tst
