/- Part of a proof over the seat Ytjdmlcpngddgaaa: what the text lends is said at its theorems. -/
import Derived.Test.YtjdmlcpngddgaaaIx3
set_option linter.unusedVariables false
set_option linter.unusedSimpArgs false
set_option maxRecDepth 20000
namespace Go.Proofs.Tst
open Go Go.Al Go.Proofs

def isI (x : Idx) : Bool := rightI x && decide (sizeI x ≤ 60)
theorem c_specIsIndexTerm (x : Idx) (hs : sizeI x ≤ 1000000000) : ACall Try.prog 0 18 [.agg ((enc x).map (MD .st))] (hpL []) (.bool (isI x)) (hpL []) := by
  obtain ⟨op, n, ks⟩ := x
  refine acall_go (fn := Try.f18) (by kernel_rfl) (by kernel_rfl) (by rfl) (Nat.le_of_ble_eq_true rfl) ?_
  show AGo _ _ _ _ _ ⟨10, _, _⟩
  repeat refine go1 (F := F) rfl ?_
  refine goCall [] rfl rfl rfl rfl (c_l8Right (.mk op n ks)) (by repeat' first | exact ⟨by simp, _, _, _, _, rfl, (by first | rfl | (simp; done)), rfl⟩ | constructor | (simp; done)) (.inl rfl) rfl rfl ?_
  repeat refine go1 (F := F) rfl ?_
  refine goGuard rfl rfl rfl (fun h1 => ?_) (fun h1 => ?_) <;> (try simp at h1) <;> (repeat refine go1 (F := F) rfl ?_)
  · refine goCall [] rfl rfl rfl rfl (c_l8Size (.mk op n ks) hs) (by repeat' first | exact ⟨by simp, _, _, _, _, rfl, (by first | rfl | (simp; done)), rfl⟩ | constructor | (simp; done)) (.inl rfl) rfl rfl ?_
    repeat refine go1 (F := F) rfl ?_
    refine goDone (F := F) rfl rfl ?_
    simp [isI, h1]
  · refine goDone (F := F) rfl rfl ?_
    simp [isI, h1]
theorem c_IsIndexTerm (x : Idx) : ACall Try.prog 0 19 [.agg ((enc x).map (MD .st))] (hpL []) (.bool (isI x)) (hpL []) := by
  have e : (rI x 60).1 = isI x := by rw [(rI_ok x 60 (by omega)).2.2.1]; rfl
  obtain ⟨op, n, ks⟩ := x
  refine acall_go (fn := Try.f19) (by kernel_rfl) (by kernel_rfl) (by rfl) (Nat.le_of_ble_eq_true rfl) ?_
  show AGo _ _ _ _ _ ⟨6, _, _⟩
  repeat refine go1 (F := F) rfl ?_
  refine goCallRef [1] [] rfl rfl rfl rfl (c_rightIndex (.mk op n ks) 60 (by omega) (by omega)) (by repeat' first | exact ⟨by simp, _, _, _, _, rfl, (by first | rfl | (simp; done)), rfl⟩ | constructor | (simp; done)) (by repeat' first | exact ⟨by simp, _, _, _, _, rfl, (by first | rfl | (simp; done)), rfl⟩ | constructor | (simp; done)) rfl rfl rfl rfl rfl (.inl rfl) rfl rfl rfl ?_
  repeat refine go1 (F := F) rfl ?_
  refine goDone (F := F) rfl rfl ?_
  exact congrArg AV.bool e

mutual
theorem szI_size : ∀ (x : Idx) (m : Int), 0 ≤ szI x m → szI x m = m + 1 - sizeI x
  | .mk _ _ ks, m, h => by
    rw [szI] at h ⊢
    rw [sizeI]
    split at h
    · omega
    · rename_i h1
      rw [if_neg h1]
      have := szL_size ks (m - ks.length) h
      omega
theorem szL_size : ∀ (xs : List Idx) (m : Int), 0 ≤ szL xs m → szL xs m = m + xs.length - sizeL xs
  | [], m, h => by
    rw [szL] at h ⊢
    split at h
    · omega
    · rename_i h1; rw [if_neg h1, sizeL]; simp
  | x :: xs, m, h => by
    rw [szL] at h ⊢
    split at h
    · omega
    · rename_i h1
      rw [if_neg h1]
      have h2 := szL_size xs _ h
      have h3 : 0 ≤ szI x m := by
        rcases szI_le x m with h4 | h4
        · apply Classical.byContradiction
          intro hn
          rw [szL_neg xs (by omega)] at h; omega
        · rw [h4] at h; rw [szL_m1] at h; omega
      have h5 := szI_size x m h3
      rw [sizeL, h2, h5]; simp; omega
end
theorem szI_bnd {x : Idx} {m : Int} (h : ¬ szI x m < 0) : sizeI x ≤ m + 1 := by
  have := szI_size x m (by omega); omega

theorem c_law4 (x : Idx) (hw : WI x 9223372036854775807) : ACall Try.prog 0 4 [.agg ((enc x).map (MD .st))] (hpL []) (.bool true) (hpL []) := by
  have s1 := a13 x hw 1048576 (by omega) (by omega)
  generalize hr1 : szI x 1048576 = r1 at s1
  have hrest : 0 ≤ r1 → sizeI x ≤ 1048577 ∧ WI x 1048576 := fun h => ⟨szI_bnd (m := 1048576) (by omega), szI_small x 1048576 _ (by omega) (by omega)⟩
  obtain ⟨op, n, ks⟩ := x
  refine acall_go (fn := Try.f4) (by kernel_rfl) (by kernel_rfl) (by rfl) (Nat.le_of_ble_eq_true rfl) ?_
  show AGo _ _ _ _ _ ⟨27, _, _⟩
  repeat refine go1 (F := F) rfl ?_
  refine goCall [] rfl rfl rfl rfl (s1) (by repeat' first | exact ⟨by simp, _, _, _, _, rfl, (by first | rfl | (simp; done)), rfl⟩ | constructor | (simp; done)) (.inl rfl) rfl rfl ?_
  repeat refine go1 (F := F) rfl ?_
  refine goIf rfl (fun h1 => ?_) (fun h1 => ?_) <;> (try simp at h1) <;> (repeat refine go1 (F := F) rfl ?_)
  · refine goDone (F := F) rfl rfl ?_
    rfl
  · obtain ⟨hs, hw'⟩ := hrest h1
    have t1 := a15 (.mk op n ks) hw' op n ks rfl
    have eq := a17 (.mk op n ks) hw' (.mk op n ks) hw'
    rw [same_refl] at eq
    refine goCall [] rfl rfl rfl rfl (t1) (by repeat' first | exact ⟨by simp, _, _, _, _, rfl, (by first | rfl | (simp; done)), rfl⟩ | constructor | (simp; done)) (.inl rfl) rfl rfl ?_
    repeat refine go1 (F := F) rfl ?_
    refine goCall [1] rfl rfl rfl rfl (c_specIsIndexTerm (.mk op n ks) (by omega)) (by repeat' first | exact ⟨by simp, _, _, _, _, rfl, (by first | rfl | (simp; done)), rfl⟩ | constructor | (simp; done)) (.inr rfl) rfl rfl ?_
    repeat refine go1 (F := F) rfl ?_
    refine goCall [] rfl rfl rfl rfl (t1) (by repeat' first | exact ⟨by simp, _, _, _, _, rfl, (by first | rfl | (simp; done)), rfl⟩ | constructor | (simp; done)) (.inl rfl) rfl rfl ?_
    repeat refine go1 (F := F) rfl ?_
    refine goCall [2] rfl rfl rfl rfl (c_IsIndexTerm (.mk op n ks)) (by repeat' first | exact ⟨by simp, _, _, _, _, rfl, (by first | rfl | (simp; done)), rfl⟩ | constructor | (simp; done)) (.inr rfl) rfl rfl ?_
    repeat refine go1 (F := F) rfl ?_
    refine goIf rfl (fun h3 => ?_) (fun h3 => ?_) <;> (try simp at h3) <;> (repeat refine go1 (F := F) rfl ?_)
    refine goDraw ?_
    repeat first | refine dgo1 (F := F) rfl ?_ | refine dgoAlloc (F := F) rfl rfl rfl rfl rfl rfl rfl ?_
    refine dgoCall [] rfl rfl rfl rfl rfl (t1) (by repeat' first | exact ⟨by simp, _, _, _, _, rfl, (by first | rfl | (simp; done)), rfl⟩ | constructor | (simp; done)) (.inl rfl) rfl rfl rfl ?_
    repeat first | refine dgo1 (F := F) rfl ?_ | refine dgoAlloc (F := F) rfl rfl rfl rfl rfl rfl rfl ?_
    refine dgoCall [2, 4] rfl rfl rfl rfl rfl (eq) (by repeat' first | exact ⟨by simp, _, _, _, _, rfl, (by first | rfl | (simp; done)), rfl⟩ | constructor | (simp; done)) (.inr rfl) rfl rfl rfl ?_
    repeat first | refine dgo1 (F := F) rfl ?_ | refine dgoAlloc (F := F) rfl rfl rfl rfl rfl rfl rfl ?_
    refine dgoEndQ (F := F) mixed [(0, 3)] (by kernel_rfl) (by kernel_rfl) (by kernel_rfl) ?_
    repeat refine go1 (F := F) rfl ?_
    refine goDone (F := F) rfl rfl ?_
    rfl
end Go.Proofs.Tst
