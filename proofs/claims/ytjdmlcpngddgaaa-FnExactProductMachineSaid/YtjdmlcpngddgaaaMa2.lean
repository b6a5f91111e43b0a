/- Part of a proof over the seat Ytjdmlcpngddgaaa: what the text lends is said at its theorems. -/
import Derived.Test.YtjdmlcpngddgaaaMa1
set_option linter.unusedVariables false
set_option linter.unusedSimpArgs false
set_option maxRecDepth 20000
namespace Go.Proofs.Ma
open Go Go.Al Go.Proofs
open Go.Proofs.Tst (c_l1In c_l1Atom c_isAtom mixed)

def szM (x : Mach) (m : Int) : Int := if m - x.acc.length < 0 then -1 else if m - x.acc.length - x.mov.length < 0 then -1 else m - x.acc.length - x.mov.length
theorem c_szMachine (x : Mach) (m : Int) (h0 : 0 ≤ m) (h1 : m ≤ 1073741824) : ACall Try.prog 0 20 [.agg (x.enc.map (MD .st)), .int .i64 m] (hpL []) (.int .i64 (szM x m)) (hpL []) := by
  obtain ⟨s, r, acc, mov⟩ := x
  have k1 := c_szBoolS (acc.map encB) m h0 h1
  rw [List.length_map] at k1
  generalize ha : (if m - (acc.length : Int) < 0 then (-1 : Int) else m - acc.length) = a at k1
  refine acall_go (fn := Try.f20) (by kernel_rfl) (by kernel_rfl) (by rfl) (Nat.le_of_ble_eq_true rfl) ?_
  show AGo _ _ _ _ _ ⟨18, _, _⟩
  repeat refine go1 (F := F) rfl ?_
  refine goCall [] rfl rfl rfl rfl (k1) (by repeat' first | exact ⟨by simp, _, _, _, _, rfl, (by first | rfl | (simp; done)), rfl⟩ | constructor | (simp; done)) (.inl rfl) rfl rfl ?_
  repeat refine go1 (F := F) rfl ?_
  refine goIf rfl (fun h2 => ?_) (fun h2 => ?_) <;> (try simp at h2) <;> (repeat refine go1 (F := F) rfl ?_)
  · have e : m - acc.length < 0 := by split at ha <;> omega
    refine goDone (F := F) rfl rfl ?_
    simp [szM, e]
  · have e : ¬ m - acc.length < 0 := by split at ha <;> omega
    rw [if_neg e] at ha
    have k2 := c_szMoveS (mov.map Mov.enc) a (by omega) (by omega)
    rw [List.length_map] at k2
    generalize hb : (if a - (mov.length : Int) < 0 then (-1 : Int) else a - mov.length) = b at k2
    refine goCall [] rfl rfl rfl rfl (k2) (by repeat' first | exact ⟨by simp, _, _, _, _, rfl, (by first | rfl | (simp; done)), rfl⟩ | constructor | (simp; done)) (.inl rfl) rfl rfl ?_
    repeat refine go1 (F := F) rfl ?_
    unfold szM
    rw [if_neg e, ha, hb]
    refine goIf rfl (fun h3 => ?_) (fun h3 => ?_) <;> (try simp at h3) <;> (repeat refine go1 (F := F) rfl ?_)
    · have : b = -1 := by split at hb <;> omega
      refine goDone (F := F) rfl rfl ?_
      rw [this]
    · refine goDone (F := F) rfl rfl ?_
      rfl
theorem szM_ok {x : Mach} {m : Int} (h : 0 ≤ szM x m) : (x.acc.length : Int) + x.mov.length ≤ m := by
  unfold szM at h
  split at h
  · omega
  · split at h <;> omega
theorem c_toMachine (x : Mach) (h1 : x.acc.length ≤ 1048576) (h2 : x.mov.length ≤ 1048576) : ACall Try.prog 0 22 [.agg (x.enc.map (MD .st))] (hpL []) (.agg [.int .i64 x.s, .int .i64 x.r, .sl (.inn 1) (x.acc.map encB), .sl (.inn 2) (x.mov.map Mov.enc)]) (hpL []) := by
  obtain ⟨s, r, acc, mov⟩ := x
  refine acall_go (fn := Try.f22) (by kernel_rfl) (by kernel_rfl) (by rfl) (Nat.le_of_ble_eq_true rfl) ?_
  show AGo _ _ _ _ _ ⟨19, _, _⟩
  repeat refine go1 (F := F) rfl ?_
  refine goCall [] rfl rfl rfl rfl (c_toBoolS acc h1) (by repeat' first | exact ⟨by simp, _, _, _, _, rfl, (by first | rfl | (simp; done)), rfl⟩ | constructor | (simp; done)) (.inl rfl) rfl rfl ?_
  repeat refine go1 (F := F) rfl ?_
  refine goCall [] rfl rfl rfl rfl (c_toMoveS mov h2) (by repeat' first | exact ⟨by simp, _, _, _, _, rfl, (by first | rfl | (simp; done)), rfl⟩ | constructor | (simp; done)) (.inl rfl) rfl rfl ?_
  repeat refine go1 (F := F) rfl ?_
  refine goFin (F := F) rfl ?_ ?_ ?_
  · simp [expOkT, expOkA, expOks, expOkAs, expOk, hpL]
  · simp [expET, expEA, expEs, expEAs, expE1]
  · simp [expGT, expGA, expGs, expGAs, expG1]
theorem c_eqMachine (x : Mach) : ACall Try.prog 0 24 [.agg (x.enc.map (MD .st)), .agg (x.enc.map (MD .st))] (hpL []) (.bool true) (hpL []) := by
  obtain ⟨s, r, acc, mov⟩ := x
  refine acall_go (fn := Try.f24) (by kernel_rfl) (by kernel_rfl) (by rfl) (Nat.le_of_ble_eq_true rfl) ?_
  show AGo _ _ _ _ _ ⟨27, _, _⟩
  repeat refine go1 (F := F) rfl ?_
  refine goIf rfl (fun h1 => ?_) (fun h1 => ?_)
  · simp at h1
  repeat refine go1 (F := F) rfl ?_
  refine goIf rfl (fun h2 => ?_) (fun h2 => ?_)
  · simp at h2
  repeat refine go1 (F := F) rfl ?_
  refine goCall [] rfl rfl rfl rfl (c_eqBoolS acc) (by repeat' first | exact ⟨by simp, _, _, _, _, rfl, (by first | rfl | (simp; done)), rfl⟩ | constructor | (simp; done)) (.inl rfl) rfl rfl ?_
  repeat refine go1 (F := F) rfl ?_
  refine goCall [] rfl rfl rfl rfl (c_eqMoveS mov) (by repeat' first | exact ⟨by simp, _, _, _, _, rfl, (by first | rfl | (simp; done)), rfl⟩ | constructor | (simp; done)) (.inl rfl) rfl rfl ?_
  repeat refine go1 (F := F) rfl ?_
  refine goDone (F := F) rfl rfl ?_
  rfl

def okMov (s r : Int) (x : Mov) : Bool := decide (0 ≤ x.to ∧ x.to ≤ s - 1) && decide (-1 ≤ x.store ∧ x.store ≤ r - 1)
def isM (x : Mach) : Bool := decide (1 ≤ x.s ∧ x.s ≤ 9 ∧ 0 ≤ x.r ∧ x.r ≤ 3 ∧ x.acc.length = x.s ∧ x.mov.length = x.s * 2 ^ x.r.toNat) && x.mov.all (okMov x.s x.r)

theorem c_l7CasesG (s r : Int) (A B : List (List D)) (hr : r ≤ 60) : ACall Try.prog 0 59 [.agg [.int .i64 s, .int .i64 r, .sl .st A, .sl .st B]] (hpL []) (.int .i64 (2 ^ r.toNat)) (hpL []) := by
  refine acall_go (fn := Try.f59) (by kernel_rfl) (by kernel_rfl) (by rfl) (Nat.le_of_ble_eq_true rfl) ?_
  show AGo _ _ _ _ _ ⟨14, _, _⟩
  repeat refine go1 (F := F) rfl ?_
  refine goLoop (X := {i : Nat // i ≤ r.toNat}) (fun i => [(1, .ptr 0 0), (3, .int .i64 (2 ^ i.1)), (4, .int .i64 i.1)]) (fun _ => [some (.box [.int .i64 s, .int .i64 r, .sl .st A, .sl .st B])]) (fun i => r.toNat - i.1) (⟨0, Nat.zero_le _⟩) (Le.weak [] (by repeat' first | constructor | omega | (simp; done) | (simp; omega)) (by repeat' first | constructor | omega | (simp; done) | (simp; omega)) (by simp) (by intro i hi; first | omega | (rcases i with _ | _ | _ | i <;> first | (intro _; rfl) | omega))) ?_
  rintro ⟨i, hi⟩
  simp only at hi ⊢
  repeat refine go1 (F := F) rfl ?_
  refine goIf rfl (fun hr' => ?_) (fun hr' => ?_) <;> (try simp at hr') <;> (repeat refine go1 (F := F) rfl ?_)
  · have hp : (2 : Int) ^ i ≤ 2 ^ 59 := by exact_mod_cast Nat.pow_le_pow_right (by omega) (show i ≤ 59 by omega)
    have hp0 : (0 : Int) < 2 ^ i := by exact_mod_cast Nat.pos_of_ne_zero (by simp)
    rw [wrap64 (n := (i : Int) + 1) (by omega) (by omega), wrap64 (n := 2 * 2 ^ i) (by omega) (by omega)]
    have e : (2 : Int) * 2 ^ i = 2 ^ (i + 1) := by rw [Int.pow_succ]; omega
    rw [e]
    refine goInv ⟨⟨i + 1, by omega⟩, (by simp; omega), (Le.weak [] (by repeat' first | constructor | omega | (simp; done) | (simp; omega)) (by repeat' first | constructor | omega | (simp; done) | (simp; omega)) (by simp) (by intro i hi; first | omega | (rcases i with _ | _ | _ | i <;> first | (intro _; rfl) | omega)))⟩
  · have : i = r.toNat := by omega
    subst this
    refine goDone (F := F) rfl rfl ?_
    rfl
theorem c_l7Cases (x : Mach) (hr : x.r ≤ 60) : ACall Try.prog 0 59 [.agg (x.enc.map (MD .st))] (hpL []) (.int .i64 (2 ^ x.r.toNat)) (hpL []) := by
  obtain ⟨s, r, acc, mov⟩ := x
  exact c_l7CasesG s r _ _ hr
end Go.Proofs.Ma
