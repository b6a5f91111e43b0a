/- Part of a proof over the seat Ytjdmlcpngddgaaa: what the text lends is said at its theorems. -/
import Derived.Test.YtjdmlcpngddgaaaMa7
set_option linter.unusedVariables false
set_option linter.unusedSimpArgs false
set_option maxRecDepth 20000
namespace Go.Proofs.Ma
open Go Go.Al Go.Proofs
open Go.Proofs.Tst (c_l1In c_l1Atom c_isAtom mixed)

def joinM (a b : Mach) (x y : Mov) : Mov := ⟨x.to * b.s + y.to, if 0 ≤ y.store then a.r + y.store else x.store⟩
def joinOk (x y : Mov) : Bool := decide (x.store < 0) || decide (y.store < 0)
theorem c_l7Both (a b : Mach) (x y : Mov) (h1 : 0 ≤ x.to ∧ x.to ≤ 100) (h2 : 0 ≤ y.to ∧ y.to ≤ 100) (h3 : 0 ≤ b.s ∧ b.s ≤ 100) (h4 : 0 ≤ a.r ∧ a.r ≤ 100) (h5 : y.store ≤ 100) :
    ACall Try.prog 0 71 [.agg (a.enc.map (MD .st)), .agg (b.enc.map (MD .st)), .agg (x.enc.map (MD .st)), .agg (y.enc.map (MD .st))] (hpL []) (.tup [.agg [.int .i64 (joinM a b x y).to, .int .i64 (joinM a b x y).store], .bool (joinOk x y)]) (hpL []) := by
  obtain ⟨sa, ar, aa, am⟩ := a
  obtain ⟨bs, br, ba, bm⟩ := b
  obtain ⟨xt, xs⟩ := x
  obtain ⟨yt, ys⟩ := y
  simp only at h1 h2 h3 h4 h5
  have hm : 0 ≤ xt * bs ∧ xt * bs ≤ 10000 := ⟨Int.mul_nonneg h1.1 h3.1, by have := Int.mul_le_mul h1.2 h3.2 h3.1 (by omega : (0:Int) ≤ 100); omega⟩
  simp only [joinM, joinOk]
  refine acall_go (fn := Try.f71) (by kernel_rfl) (by kernel_rfl) (by rfl) (Nat.le_of_ble_eq_true rfl) ?_
  show AGo _ _ _ _ _ ⟨40, _, _⟩
  repeat refine go1 (F := F) rfl ?_
  rw [wrap64 (n := xt * bs) (by omega) (by omega), wrap64 (n := xt * bs + yt) (by omega) (by omega)]
  refine goCut (X := Unit) 1 (fun _ => [(6, .ptr 2 0), (7, .ptr 3 0), (8, .ptr 4 0), (10, .ptr 5 0)]) (fun _ => [none, none, some (.box [.int .i64 xt, .int .i64 xs]), some (.box [.int .i64 yt, .int .i64 ys]), some (.box [.int .i64 0, .int .i64 0]), some (.box [.int .i64 (xt * bs + yt), .int .i64 (if 0 ≤ ys then ar + ys else xs)])]) rfl ?_ ?_
  · refine goIf rfl (fun g => ?_) (fun g => ?_) <;> (try simp at g) <;> (repeat refine go1 (F := F) rfl ?_)
    · rw [wrap64 (n := ar + ys) (by omega) (by omega), if_pos g]
      refine goInv ⟨(), (Le.weak [] (by repeat' first | constructor | omega | (simp; done) | (simp; omega)) (by repeat' first | constructor | omega | (simp; done) | (simp; omega)) (by simp) (by intro i hi; first | omega | (rcases i with _ | _ | _ | i <;> first | (intro _; rfl) | omega)))⟩
    · rw [if_neg (by omega)]
      refine goInv ⟨(), (Le.weak [] (by repeat' first | constructor | omega | (simp; done) | (simp; omega)) (by repeat' first | constructor | omega | (simp; done) | (simp; omega)) (by simp) (by intro i hi; first | omega | (rcases i with _ | _ | _ | i <;> first | (intro _; rfl) | omega)))⟩
  · rintro ⟨⟩
    repeat refine go1 (F := F) rfl ?_
    refine goDraw ?_
    repeat first | refine dgo1 (F := F) rfl ?_ | refine dgoAlloc (F := F) rfl rfl rfl rfl rfl rfl rfl ?_
    refine dgoGuard rfl rfl rfl (fun g2 => ?_) (fun g2 => ?_) <;> (try simp at g2) <;> (repeat first | refine dgo1 (F := F) rfl ?_ | refine dgoAlloc (F := F) rfl rfl rfl rfl rfl rfl rfl ?_)
    · refine dgoEndQ (F := F) mixed [(5, 10), (6, 10), (7, 10), (8, 10)] (by kernel_rfl) (by kernel_rfl) (by kernel_rfl) ?_
      repeat refine go1 (F := F) rfl ?_
      refine goFin (F := F) rfl ?_ ?_ ?_
      · simp [expOkT, expOkA, expOks, expOkAs, expOk, hpL, g2]
      · simp [expET, expEA, expEs, expEAs, expE1, g2]
      · simp [expGT, expGA, expGs, expGAs, expG1, g2]
    · refine dgoEndQ (F := F) mixed [(5, 10), (6, 10), (7, 10), (8, 10)] (by kernel_rfl) (by kernel_rfl) (by kernel_rfl) ?_
      repeat refine go1 (F := F) rfl ?_
      refine goFin (F := F) rfl (by simp [expOkT, expOkA, expOks, expOkAs, expOk, hpL]; intro h; omega) (by simp [expET, expEA, expEs, expEAs, expE1]) (by simp [expGT, expGA, expGs, expGAs, expG1])
theorem c_joined (a b : Mach) (x y : Mov) (h1 : 0 ≤ x.to ∧ x.to ≤ 100) (h2 : 0 ≤ y.to ∧ y.to ≤ 100) (h3 : 0 ≤ b.s ∧ b.s ≤ 100) (h4 : 0 ≤ a.r ∧ a.r ≤ 100) (h5 : y.store ≤ 100) :
    ACall Try.prog 0 72 [.agg (a.enc.map (MD .st)), .agg (b.enc.map (MD .st)), .agg (x.enc.map (MD .st)), .agg (y.enc.map (MD .st))] (hpL []) (.tup [.agg [.int .i64 (joinM a b x y).to, .int .i64 (joinM a b x y).store], .bool (joinOk x y)]) (hpL []) := by
  obtain ⟨sa, ar, aa, am⟩ := a
  obtain ⟨bs, br, ba, bm⟩ := b
  obtain ⟨xt, xs⟩ := x
  obtain ⟨yt, ys⟩ := y
  simp only at h1 h2 h3 h4 h5
  have hm : 0 ≤ xt * bs ∧ xt * bs ≤ 10000 := ⟨Int.mul_nonneg h1.1 h3.1, by have := Int.mul_le_mul h1.2 h3.2 h3.1 (by omega : (0:Int) ≤ 100); omega⟩
  simp only [joinM, joinOk]
  refine acall_go (fn := Try.f72) (by kernel_rfl) (by kernel_rfl) (by rfl) (Nat.le_of_ble_eq_true rfl) ?_
  show AGo _ _ _ _ _ ⟨40, _, _⟩
  repeat refine go1 (F := F) rfl ?_
  rw [wrap64 (n := xt * bs) (by omega) (by omega), wrap64 (n := xt * bs + yt) (by omega) (by omega)]
  refine goCut (X := Unit) 1 (fun _ => [(6, .ptr 2 0), (7, .ptr 3 0), (8, .ptr 4 0), (10, .ptr 5 0)]) (fun _ => [none, none, some (.box [.int .i64 xt, .int .i64 xs]), some (.box [.int .i64 yt, .int .i64 ys]), some (.box [.int .i64 0, .int .i64 0]), some (.box [.int .i64 (xt * bs + yt), .int .i64 (if 0 ≤ ys then ar + ys else xs)])]) rfl ?_ ?_
  · refine goIf rfl (fun g => ?_) (fun g => ?_) <;> (try simp at g) <;> (repeat refine go1 (F := F) rfl ?_)
    · rw [wrap64 (n := ar + ys) (by omega) (by omega), if_pos g]
      refine goInv ⟨(), (Le.weak [] (by repeat' first | constructor | omega | (simp; done) | (simp; omega)) (by repeat' first | constructor | omega | (simp; done) | (simp; omega)) (by simp) (by intro i hi; first | omega | (rcases i with _ | _ | _ | i <;> first | (intro _; rfl) | omega)))⟩
    · rw [if_neg (by omega)]
      refine goInv ⟨(), (Le.weak [] (by repeat' first | constructor | omega | (simp; done) | (simp; omega)) (by repeat' first | constructor | omega | (simp; done) | (simp; omega)) (by simp) (by intro i hi; first | omega | (rcases i with _ | _ | _ | i <;> first | (intro _; rfl) | omega)))⟩
  · rintro ⟨⟩
    repeat refine go1 (F := F) rfl ?_
    refine goDraw ?_
    repeat first | refine dgo1 (F := F) rfl ?_ | refine dgoAlloc (F := F) rfl rfl rfl rfl rfl rfl rfl ?_
    refine dgoGuard rfl rfl rfl (fun g2 => ?_) (fun g2 => ?_) <;> (try simp at g2) <;> (repeat first | refine dgo1 (F := F) rfl ?_ | refine dgoAlloc (F := F) rfl rfl rfl rfl rfl rfl rfl ?_)
    · refine dgoEndQ (F := F) mixed [(5, 10), (6, 10), (7, 10), (8, 10)] (by kernel_rfl) (by kernel_rfl) (by kernel_rfl) ?_
      repeat refine go1 (F := F) rfl ?_
      refine goFin (F := F) rfl ?_ ?_ ?_
      · simp [expOkT, expOkA, expOks, expOkAs, expOk, hpL, g2]
      · simp [expET, expEA, expEs, expEAs, expE1, g2]
      · simp [expGT, expGA, expGs, expGAs, expG1, g2]
    · refine dgoEndQ (F := F) mixed [(5, 10), (6, 10), (7, 10), (8, 10)] (by kernel_rfl) (by kernel_rfl) (by kernel_rfl) ?_
      repeat refine go1 (F := F) rfl ?_
      refine goFin (F := F) rfl (by simp [expOkT, expOkA, expOks, expOkAs, expOk, hpL]; intro h; omega) (by simp [expET, expEA, expEs, expEAs, expE1]) (by simp [expGT, expGA, expGs, expGAs, expG1])

end Go.Proofs.Ma
