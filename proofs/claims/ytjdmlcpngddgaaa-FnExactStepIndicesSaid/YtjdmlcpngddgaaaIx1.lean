/- Part of a proof over the seat Ytjdmlcpngddgaaa: what the text lends is said at its theorems. -/
import Derived.Test.YtjdmlcpngddgaaaTstL
import Derived.Test.YtjdmlcpngddgaaaAlBnd
set_option linter.unusedVariables false
set_option linter.unusedSimpArgs false
set_option maxRecDepth 20000
namespace Go.Proofs.Tst
open Go Go.Al Go.Proofs

theorem Idx.rec' {p : Idx → Prop} (h : ∀ op n ks, (∀ k ∈ ks, p k) → p (.mk op n ks)) : ∀ x, p x
  | .mk op n ks => h op n ks fun k hk => Idx.rec' h k
theorem ab_idx {op n : Int} {ks : List Idx} {r : List AV} (h : ABs (.agg ((enc (.mk op n ks)).map (MD .st)) :: r)) : ks.length ≤ 9223372036854775807 ∧ IntKind.i64.wrap op = op ∧ IntKind.i64.wrap n = n := by
  have h1 : AB (.agg [.int .i64 op, .int .i64 n, .sl .st (encL ks)]) := h.1
  simp only [AB, ABs] at h1
  refine ⟨?_, h1.1, h1.2.1⟩
  have := h1.2.2.1.of_sl.1
  rw [encL_len] at this
  simpa [maxLen] using this

theorem c_l1In (a b c : Int) : ACall Try.prog 0 58 [.int .i64 a, .int .i64 b, .int .i64 c] (hpL []) (.bool (decide (b ≤ a ∧ a ≤ c))) (hpL []) := by
  refine acall_go (fn := Try.f58) (by kernel_rfl) (by kernel_rfl) (by rfl) (Nat.le_of_ble_eq_true rfl) ?_
  show AGo _ _ _ _ _ ⟨15, _, _⟩
  repeat refine go1 (F := F) rfl ?_
  refine goGuard rfl rfl rfl (fun h => ?_) (fun h => ?_) <;> (try simp at h) <;> (repeat refine go1 (F := F) rfl ?_)
  · refine goDone (F := F) rfl rfl ?_
    simp [h]
  · refine goDone (F := F) rfl rfl ?_
    simp; omega
theorem c_l1Atom (a : Int) : ACall Try.prog 0 93 [.int .i64 a] (hpL []) (.bool (decide (0 ≤ a ∧ a ≤ 999))) (hpL []) := by
  refine acall_go (fn := Try.f93) (by kernel_rfl) (by kernel_rfl) (by rfl) (Nat.le_of_ble_eq_true rfl) ?_
  show AGo _ _ _ _ _ ⟨5, _, _⟩
  repeat refine go1 (F := F) rfl ?_
  refine goCall [] rfl rfl rfl rfl (c_l1In a 0 999) (by repeat' first | exact ⟨by simp, _, _, _, _, rfl, (by first | rfl | (simp; done)), rfl⟩ | constructor | (simp; done)) (.inl rfl) rfl rfl ?_
  repeat refine go1 (F := F) rfl ?_
  refine goDone (F := F) rfl rfl ?_
  rfl
theorem c_isAtom (a : Int) : ACall Try.prog 0 94 [.int .i64 a] (hpL []) (.bool (decide (0 ≤ a ∧ a ≤ 999))) (hpL []) := by
  refine acall_go (fn := Try.f94) (by kernel_rfl) (by kernel_rfl) (by rfl) (Nat.le_of_ble_eq_true rfl) ?_
  show AGo _ _ _ _ _ ⟨9, _, _⟩
  repeat refine go1 (F := F) rfl ?_
  refine goGuard rfl rfl rfl (fun h => ?_) (fun h => ?_) <;> (try simp at h) <;> (repeat refine go1 (F := F) rfl ?_)
  · refine goDone (F := F) rfl rfl ?_
    simp [h]
  · refine goDone (F := F) rfl rfl ?_
    simp; omega
end Go.Proofs.Tst
