/- Part of a proof over the seat Ytjdmlcpngddgaaa: what the text lends is said at its theorems. -/
import Derived.Test.YtjdmlcpngddgaaaTstH
import Derived.Test.YtjdmlcpngddgaaaAlLaw
namespace Go.Proofs.Tst
open Go Go.Al Go.Proofs

mutual
def WI : Idx → Nat → Prop
  | .mk _ _ ks, B => ks.length ≤ B ∧ WL ks B
def WL : List Idx → Nat → Prop
  | [], _ => True
  | x :: xs, B => WI x B ∧ WL xs B
end

theorem szL_m1 (xs : List Idx) : szL xs (-1) = -1 := szL_neg xs (by omega)

mutual
theorem szI_le : ∀ (x : Idx) (m : Int), szI x m ≤ m ∨ szI x m = -1
  | .mk _ _ ks, m => by
    rw [szI]
    split
    · exact .inr rfl
    · rename_i h
      rcases szL_le ks (m - ks.length) with h1 | h1
      · left; omega
      · omega
theorem szL_le : ∀ (xs : List Idx) (m : Int), szL xs m ≤ m ∨ szL xs m = -1
  | [], m => by rw [szL]; split <;> simp
  | x :: xs, m => by
    rw [szL]
    split
    · exact .inr rfl
    · rename_i h
      rcases szL_le xs (szI x m) with h1 | h1
      · rcases szI_le x m with h2 | h2
        · left; omega
        · right; rw [h2]; exact szL_m1 xs
      · exact .inr h1
end

mutual
theorem szI_small : ∀ (x : Idx) (m : Int) (B : Nat), m ≤ B → 0 ≤ szI x m → WI x B
  | .mk _ _ ks, m, B, hm, h => by
    rw [szI] at h
    split at h
    · omega
    · rename_i h1
      have h2 : 0 ≤ m - ks.length := by
        rcases Int.lt_or_le (m - ks.length) 0 with h3 | h3
        · rw [szL_neg ks h3] at h; omega
        · exact h3
      exact ⟨by omega, szL_small ks (m - ks.length) B (by omega) h⟩
theorem szL_small : ∀ (xs : List Idx) (m : Int) (B : Nat), m ≤ B → 0 ≤ szL xs m → WL xs B
  | [], m, B, _, _ => trivial
  | x :: xs, m, B, hm, h => by
    rw [szL] at h
    split at h
    · omega
    · rename_i h1
      have h2 : 0 ≤ szI x m := by
        rcases Int.lt_or_le (szI x m) 0 with h3 | h3
        · rw [szL_neg xs h3] at h; omega
        · exact h3
      have h3 : szI x m ≤ B := by rcases szI_le x m with h4 | h4 <;> omega
      exact ⟨szI_small x m B hm h2, szL_small xs _ B h3 h⟩
end

mutual
theorem a13 : ∀ (x : Idx), WI x 9223372036854775807 → ∀ n : Int, 0 ≤ n → n ≤ 1048576 → ACall Try.prog 0 13 [.agg ((enc x).map (MD .st)), .int .i64 n] (hpL []) (.int .i64 (szI x n)) (hpL [])
  | .mk op m ks, hw, n, h0, h1 => by
    rw [WI] at hw
    have := c13 (op := op) (m := m) (c48 h0 h1 hw.1 (fun x _ n => szI_le x n) (a13L ks hw.2))
    rw [szI]; exact this
theorem a13L : ∀ (xs : List Idx), WL xs 9223372036854775807 → ∀ x ∈ xs, ∀ n : Int, 0 ≤ n → n ≤ 1048576 → ACall Try.prog 0 13 [.agg ((enc x).map (MD .st)), .int .i64 n] (hpL []) (.int .i64 (szI x n)) (hpL [])
  | [], _, x, hx => by simp at hx
  | y :: ys, hw, x, hx => by
    rw [WL] at hw
    rcases List.mem_cons.1 hx with h | h
    · rw [h]; exact a13 y hw.1
    · exact a13L ys hw.2 x h
end
end Go.Proofs.Tst
