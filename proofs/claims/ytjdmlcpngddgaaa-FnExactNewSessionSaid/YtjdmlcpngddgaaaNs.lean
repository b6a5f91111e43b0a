/- Part of a proof over the seat Ytjdmlcpngddgaaa: what the text lends is said at its theorems. -/
import Derived.Test.YtjdmlcpngddgaaaIx4
import Derived.Test.YtjdmlcpngddgaaaAlApp
set_option linter.unusedVariables false
set_option linter.unusedSimpArgs false
set_option maxRecDepth 20000
namespace Go.Proofs.Ns
open Go Go.Al Go.Proofs
open Go.Proofs.Tst (mixed)

def tyL : List (Nat × TyI) := [
  (3, ⟨1, 8, some [.int .i64 0], none, .int .i64⟩),
  (4, ⟨1, 1, some [.bool false], none, .bool⟩),
  (63, ⟨1, 24, some [.nil], none, .slice 155⟩),
  (64, ⟨1, 24, some [.nil], none, .slice 66⟩),
  (66, ⟨4, 64, some [.int .i64 0, .int .i64 0, .nil, .nil], some [(0, 1), (1, 1), (2, 1), (3, 1)], .struct [(0, 3), (1, 3), (2, 63), (3, 64)]⟩),
  (67, ⟨1, 24, some [.nil], none, .slice 140⟩),
  (69, ⟨9, 152, some [.int .i64 0, .int .i64 0, .nil, .nil, .int .i64 0, .int .i64 0, .nil, .nil, .nil], some [(0, 4), (4, 4), (8, 1)], .struct [(0, 66), (4, 66), (8, 67)]⟩),
  (140, ⟨9, 152, some [.nil, .int .i64 0, .int .i64 0, .nil, .nil, .int .i64 0, .int .i64 0, .nil, .nil], some [(0, 1), (1, 4), (5, 4)], .struct [(0, 138), (1, 66), (5, 66)]⟩),
  (155, ⟨2, 16, some [.int .i64 0, .int .i64 0], some [(0, 1), (1, 1)], .struct [(0, 3), (1, 3)]⟩)]
noncomputable def F : Ty := tyO tyL (tyI Try.prog)
instance : TyF Try.prog F := ⟨tyO_eq ⟨by kernel_rfl, by kernel_rfl, by kernel_rfl, by kernel_rfl, by kernel_rfl, by kernel_rfl, by kernel_rfl, by kernel_rfl, by kernel_rfl, trivial⟩⟩

def Tm0 : List AV := [.int .i64 1, .int .i64 0, .nil, .nil]
def Ss0 : List AV := [.int .i64 1, .int .i64 0, .nil, .nil, .int .i64 1, .int .i64 0, .nil, .nil, .nil]

theorem c_specNew : ACall Try.prog 0 43 [] (hpL []) (.agg Ss0) (hpL []) := by
  refine acall_go (fn := Try.f43) (by kernel_rfl) (by kernel_rfl) (by rfl) (Nat.le_of_ble_eq_true rfl) ?_
  show AGo _ _ _ _ _ ⟨6, _, _⟩
  repeat refine go1 (F := F) rfl ?_
  refine goFin (F := F) rfl ?_ ?_ ?_
  · simp [expOkT, expOkA, expOks, expOkAs, expOk, hpL, Ss0]
  · simp [expET, expEA, expEs, expEAs, expE1, Ss0]
  · simp [expGT, expGA, expGs, expGAs, expG1, Ss0]
theorem c_New : ACall Try.prog 0 44 [] (hpL []) (.agg Ss0) (hpL []) := by
  refine acall_go (fn := Try.f44) (by kernel_rfl) (by kernel_rfl) (by rfl) (Nat.le_of_ble_eq_true rfl) ?_
  show AGo _ _ _ _ _ ⟨4, _, _⟩
  repeat refine go1 (F := F) rfl ?_
  refine goFin (F := F) rfl ?_ ?_ ?_
  · simp [expOkT, expOkA, expOks, expOkAs, expOk, hpL, Ss0]
  · simp [expET, expEA, expEs, expEAs, expE1, Ss0]
  · simp [expGT, expGA, expGs, expGAs, expG1, Ss0]
theorem c_eqPairS : ACall Try.prog 0 114 [.nil, .nil] (hpL []) (.bool true) (hpL []) := by
  refine acall_go (fn := Try.f114) (by kernel_rfl) (by kernel_rfl) (by rfl) (Nat.le_of_ble_eq_true rfl) ?_
  show AGo _ _ _ _ _ ⟨27, _, _⟩
  repeat refine go1 (F := F) rfl ?_
  refine goOnce ?_
  repeat refine go1 (F := F) rfl ?_
  refine goDone (F := F) rfl rfl ?_
  rfl
theorem c_eqTermS : ACall Try.prog 0 115 [.nil, .nil] (hpL []) (.bool true) (hpL []) := by
  refine acall_go (fn := Try.f115) (by kernel_rfl) (by kernel_rfl) (by rfl) (Nat.le_of_ble_eq_true rfl) ?_
  show AGo _ _ _ _ _ ⟨27, _, _⟩
  repeat refine go1 (F := F) rfl ?_
  refine goOnce ?_
  repeat refine go1 (F := F) rfl ?_
  refine goDone (F := F) rfl rfl ?_
  rfl
theorem c_eqRuleS : ACall Try.prog 0 88 [.nil, .nil] (hpL []) (.bool true) (hpL []) := by
  refine acall_go (fn := Try.f88) (by kernel_rfl) (by kernel_rfl) (by rfl) (Nat.le_of_ble_eq_true rfl) ?_
  show AGo _ _ _ _ _ ⟨27, _, _⟩
  repeat refine go1 (F := F) rfl ?_
  refine goOnce ?_
  repeat refine go1 (F := F) rfl ?_
  refine goDone (F := F) rfl rfl ?_
  rfl
theorem c_eqTerm : ACall Try.prog 0 87 [.agg Tm0, .agg Tm0] (hpL []) (.bool true) (hpL []) := by
  refine acall_go (fn := Try.f87) (by kernel_rfl) (by kernel_rfl) (by rfl) (Nat.le_of_ble_eq_true rfl) ?_
  show AGo _ _ _ _ _ ⟨27, _, _⟩
  repeat refine go1 (F := F) rfl ?_
  refine goCall [] rfl rfl rfl rfl (c_eqPairS) (by repeat' first | exact ⟨by simp, _, _, _, _, rfl, (by first | rfl | (simp; done)), rfl⟩ | constructor | (simp; done)) (.inl rfl) rfl rfl ?_
  repeat refine go1 (F := F) rfl ?_
  refine goCall [] rfl rfl rfl rfl (c_eqTermS) (by repeat' first | exact ⟨by simp, _, _, _, _, rfl, (by first | rfl | (simp; done)), rfl⟩ | constructor | (simp; done)) (.inl rfl) rfl rfl ?_
  repeat refine go1 (F := F) rfl ?_
  refine goDone (F := F) rfl rfl ?_
  rfl
theorem c_eqSession : ACall Try.prog 0 45 [.agg Ss0, .agg Ss0] (hpL []) (.bool true) (hpL []) := by
  refine acall_go (fn := Try.f45) (by kernel_rfl) (by kernel_rfl) (by rfl) (Nat.le_of_ble_eq_true rfl) ?_
  show AGo _ _ _ _ _ ⟨23, _, _⟩
  repeat refine go1 (F := F) rfl ?_
  refine goCall [] rfl rfl rfl rfl (c_eqTerm) (by repeat' first | exact ⟨by simp, _, _, _, _, rfl, (by first | rfl | (simp; done)), rfl⟩ | constructor | (simp; done)) (.inl rfl) rfl rfl ?_
  repeat refine go1 (F := F) rfl ?_
  refine goCall [] rfl rfl rfl rfl (c_eqTerm) (by repeat' first | exact ⟨by simp, _, _, _, _, rfl, (by first | rfl | (simp; done)), rfl⟩ | constructor | (simp; done)) (.inl rfl) rfl rfl ?_
  repeat refine go1 (F := F) rfl ?_
  refine goCall [] rfl rfl rfl rfl (c_eqRuleS) (by repeat' first | exact ⟨by simp, _, _, _, _, rfl, (by first | rfl | (simp; done)), rfl⟩ | constructor | (simp; done)) (.inl rfl) rfl rfl ?_
  repeat refine go1 (F := F) rfl ?_
  refine goDone (F := F) rfl rfl ?_
  rfl
theorem c_markPairS (k : Int) : ACall Try.prog 0 117 [.nil, .int .i64 k] (hpL []) (.int .i64 k) (hpL []) := by
  refine acall_go (fn := Try.f117) (by kernel_rfl) (by kernel_rfl) (by rfl) (Nat.le_of_ble_eq_true rfl) ?_
  show AGo _ _ _ _ _ ⟨27, _, _⟩
  repeat refine go1 (F := F) rfl ?_
  refine goOnce ?_
  repeat refine go1 (F := F) rfl ?_
  refine goDone (F := F) rfl rfl ?_
  rfl
theorem c_markTermS (k : Int) : ACall Try.prog 0 118 [.nil, .int .i64 k] (hpL []) (.int .i64 k) (hpL []) := by
  refine acall_go (fn := Try.f118) (by kernel_rfl) (by kernel_rfl) (by rfl) (Nat.le_of_ble_eq_true rfl) ?_
  show AGo _ _ _ _ _ ⟨41, _, _⟩
  repeat refine go1 (F := F) rfl ?_
  refine goOnce ?_
  repeat refine go1 (F := F) rfl ?_
  refine goDone (F := F) rfl rfl ?_
  rfl
theorem c_markRuleS (k : Int) : ACall Try.prog 0 90 [.nil, .int .i64 k] (hpL []) (.int .i64 k) (hpL []) := by
  refine acall_go (fn := Try.f90) (by kernel_rfl) (by kernel_rfl) (by rfl) (Nat.le_of_ble_eq_true rfl) ?_
  show AGo _ _ _ _ _ ⟨84, _, _⟩
  repeat refine go1 (F := F) rfl ?_
  refine goOnce ?_
  repeat refine go1 (F := F) rfl ?_
  refine goDone (F := F) rfl rfl ?_
  rfl
theorem c_markTerm (k : Int) : ACall Try.prog 0 89 [.agg Tm0, .int .i64 k] (hpL []) (.int .i64 k) (hpL []) := by
  refine acall_go (fn := Try.f89) (by kernel_rfl) (by kernel_rfl) (by rfl) (Nat.le_of_ble_eq_true rfl) ?_
  show AGo _ _ _ _ _ ⟨14, _, _⟩
  repeat refine go1 (F := F) rfl ?_
  refine goCall [] rfl rfl rfl rfl (c_markPairS k) (by repeat' first | exact ⟨by simp, _, _, _, _, rfl, (by first | rfl | (simp; done)), rfl⟩ | constructor | (simp; done)) (.inl rfl) rfl rfl ?_
  repeat refine go1 (F := F) rfl ?_
  refine goCall [] rfl rfl rfl rfl (c_markTermS k) (by repeat' first | exact ⟨by simp, _, _, _, _, rfl, (by first | rfl | (simp; done)), rfl⟩ | constructor | (simp; done)) (.inl rfl) rfl rfl ?_
  repeat refine go1 (F := F) rfl ?_
  refine goDone (F := F) rfl rfl ?_
  rfl
theorem c_markSession (k : Int) : ACall Try.prog 0 46 [.agg Ss0, .int .i64 k] (hpL []) (.int .i64 k) (hpL []) := by
  refine acall_go (fn := Try.f46) (by kernel_rfl) (by kernel_rfl) (by rfl) (Nat.le_of_ble_eq_true rfl) ?_
  show AGo _ _ _ _ _ ⟨18, _, _⟩
  repeat refine go1 (F := F) rfl ?_
  refine goCall [] rfl rfl rfl rfl (c_markTerm k) (by repeat' first | exact ⟨by simp, _, _, _, _, rfl, (by first | rfl | (simp; done)), rfl⟩ | constructor | (simp; done)) (.inl rfl) rfl rfl ?_
  repeat refine go1 (F := F) rfl ?_
  refine goCall [] rfl rfl rfl rfl (c_markTerm k) (by repeat' first | exact ⟨by simp, _, _, _, _, rfl, (by first | rfl | (simp; done)), rfl⟩ | constructor | (simp; done)) (.inl rfl) rfl rfl ?_
  repeat refine go1 (F := F) rfl ?_
  refine goCall [] rfl rfl rfl rfl (c_markRuleS k) (by repeat' first | exact ⟨by simp, _, _, _, _, rfl, (by first | rfl | (simp; done)), rfl⟩ | constructor | (simp; done)) (.inl rfl) rfl rfl ?_
  repeat refine go1 (F := F) rfl ?_
  refine goDone (F := F) rfl rfl ?_
  rfl
theorem c_heldPairS (k : Int) : ACall Try.prog 0 120 [.nil, .int .i64 k] (hpL []) (.int .i64 k) (hpL []) := by
  refine acall_go (fn := Try.f120) (by kernel_rfl) (by kernel_rfl) (by rfl) (Nat.le_of_ble_eq_true rfl) ?_
  show AGo _ _ _ _ _ ⟨31, _, _⟩
  repeat refine go1 (F := F) rfl ?_
  refine goOnce ?_
  repeat refine go1 (F := F) rfl ?_
  refine goDone (F := F) rfl rfl ?_
  rfl
theorem c_heldTermS (k : Int) : ACall Try.prog 0 121 [.nil, .int .i64 k] (hpL []) (.int .i64 k) (hpL []) := by
  refine acall_go (fn := Try.f121) (by kernel_rfl) (by kernel_rfl) (by rfl) (Nat.le_of_ble_eq_true rfl) ?_
  show AGo _ _ _ _ _ ⟨49, _, _⟩
  repeat refine go1 (F := F) rfl ?_
  refine goOnce ?_
  repeat refine go1 (F := F) rfl ?_
  refine goDone (F := F) rfl rfl ?_
  rfl
theorem c_heldRuleS (k : Int) : ACall Try.prog 0 92 [.nil, .int .i64 k] (hpL []) (.int .i64 k) (hpL []) := by
  refine acall_go (fn := Try.f92) (by kernel_rfl) (by kernel_rfl) (by rfl) (Nat.le_of_ble_eq_true rfl) ?_
  show AGo _ _ _ _ _ ⟨102, _, _⟩
  repeat refine go1 (F := F) rfl ?_
  refine goOnce ?_
  repeat refine go1 (F := F) rfl ?_
  refine goDone (F := F) rfl rfl ?_
  rfl
theorem c_heldTerm : ACall Try.prog 0 91 [.agg Tm0, .int .i64 1] (hpL []) (.int .i64 1) (hpL []) := by
  refine acall_go (fn := Try.f91) (by kernel_rfl) (by kernel_rfl) (by rfl) (Nat.le_of_ble_eq_true rfl) ?_
  show AGo _ _ _ _ _ ⟨18, _, _⟩
  repeat refine go1 (F := F) rfl ?_
  refine goCall [] rfl rfl rfl rfl (c_heldPairS 1) (by repeat' first | exact ⟨by simp, _, _, _, _, rfl, (by first | rfl | (simp; done)), rfl⟩ | constructor | (simp; done)) (.inl rfl) rfl rfl ?_
  repeat refine go1 (F := F) rfl ?_
  refine goCall [] rfl rfl rfl rfl (c_heldTermS 1) (by repeat' first | exact ⟨by simp, _, _, _, _, rfl, (by first | rfl | (simp; done)), rfl⟩ | constructor | (simp; done)) (.inl rfl) rfl rfl ?_
  repeat refine go1 (F := F) rfl ?_
  refine goDone (F := F) rfl rfl ?_
  rfl
theorem c_heldSession : ACall Try.prog 0 47 [.agg Ss0, .int .i64 1] (hpL []) (.int .i64 1) (hpL []) := by
  refine acall_go (fn := Try.f47) (by kernel_rfl) (by kernel_rfl) (by rfl) (Nat.le_of_ble_eq_true rfl) ?_
  show AGo _ _ _ _ _ ⟨24, _, _⟩
  repeat refine go1 (F := F) rfl ?_
  refine goCall [] rfl rfl rfl rfl (c_heldTerm) (by repeat' first | exact ⟨by simp, _, _, _, _, rfl, (by first | rfl | (simp; done)), rfl⟩ | constructor | (simp; done)) (.inl rfl) rfl rfl ?_
  repeat refine go1 (F := F) rfl ?_
  refine goCall [] rfl rfl rfl rfl (c_heldTerm) (by repeat' first | exact ⟨by simp, _, _, _, _, rfl, (by first | rfl | (simp; done)), rfl⟩ | constructor | (simp; done)) (.inl rfl) rfl rfl ?_
  repeat refine go1 (F := F) rfl ?_
  refine goCall [] rfl rfl rfl rfl (c_heldRuleS 1) (by repeat' first | exact ⟨by simp, _, _, _, _, rfl, (by first | rfl | (simp; done)), rfl⟩ | constructor | (simp; done)) (.inl rfl) rfl rfl ?_
  repeat refine go1 (F := F) rfl ?_
  refine goDone (F := F) rfl rfl ?_
  rfl
theorem c_law12 : ACall Try.prog 0 12 [] (hpL []) (.bool true) (hpL []) := by
  refine acall_go (fn := Try.f12) (by kernel_rfl) (by kernel_rfl) (by rfl) (Nat.le_of_ble_eq_true rfl) ?_
  show AGo _ _ _ _ _ ⟨36, _, _⟩
  repeat refine go1 (F := F) rfl ?_
  refine goCall [] rfl rfl rfl rfl (c_specNew) (by repeat' first | exact ⟨by simp, _, _, _, _, rfl, (by first | rfl | (simp; done)), rfl⟩ | constructor | (simp; done)) (.inl rfl) rfl rfl ?_
  repeat refine go1 (F := F) rfl ?_
  refine goCall [] rfl rfl rfl rfl (c_New) (by repeat' first | exact ⟨by simp, _, _, _, _, rfl, (by first | rfl | (simp; done)), rfl⟩ | constructor | (simp; done)) (.inl rfl) rfl rfl ?_
  repeat refine go1 (F := F) rfl ?_
  refine goCall [] rfl rfl rfl rfl (c_eqSession) (by repeat' first | exact ⟨by simp, _, _, _, _, rfl, (by first | rfl | (simp; done)), rfl⟩ | constructor | (simp; done)) (.inl rfl) rfl rfl ?_
  repeat refine go1 (F := F) rfl ?_
  refine goCall [] rfl rfl rfl rfl (c_markSession 1) (by repeat' first | exact ⟨by simp, _, _, _, _, rfl, (by first | rfl | (simp; done)), rfl⟩ | constructor | (simp; done)) (.inl rfl) rfl rfl ?_
  repeat refine go1 (F := F) rfl ?_
  refine goCall [] rfl rfl rfl rfl (c_heldSession) (by repeat' first | exact ⟨by simp, _, _, _, _, rfl, (by first | rfl | (simp; done)), rfl⟩ | constructor | (simp; done)) (.inl rfl) rfl rfl ?_
  repeat refine go1 (F := F) rfl ?_
  refine goCall [] rfl rfl rfl rfl (c_New) (by repeat' first | exact ⟨by simp, _, _, _, _, rfl, (by first | rfl | (simp; done)), rfl⟩ | constructor | (simp; done)) (.inl rfl) rfl rfl ?_
  repeat refine go1 (F := F) rfl ?_
  refine goCall [] rfl rfl rfl rfl (c_eqSession) (by repeat' first | exact ⟨by simp, _, _, _, _, rfl, (by first | rfl | (simp; done)), rfl⟩ | constructor | (simp; done)) (.inl rfl) rfl rfl ?_
  repeat refine go1 (F := F) rfl ?_
  refine goCall [] rfl rfl rfl rfl (c_heldSession) (by repeat' first | exact ⟨by simp, _, _, _, _, rfl, (by first | rfl | (simp; done)), rfl⟩ | constructor | (simp; done)) (.inl rfl) rfl rfl ?_
  repeat refine go1 (F := F) rfl ?_
  refine goDone (F := F) rfl rfl ?_
  rfl
end Go.Proofs.Ns
