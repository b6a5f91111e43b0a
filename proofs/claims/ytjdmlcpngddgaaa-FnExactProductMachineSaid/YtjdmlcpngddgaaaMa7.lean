/- Part of a proof over the seat Ytjdmlcpngddgaaa: what the text lends is said at its theorems. -/
import Derived.Test.YtjdmlcpngddgaaaMa6
set_option linter.unusedVariables false
set_option linter.unusedSimpArgs false
set_option maxRecDepth 20000
namespace Go.Proofs.Ma
open Go Go.Al Go.Proofs
open Go.Proofs.Tst (c_l1In c_l1Atom c_isAtom mixed)

def mkB (k : Int) (i : Nat) : List D := [.bool (decide (Int.tmod (k + i) 3 = 0))]
def mkM (k : Int) (i : Nat) : List D := [.int .i64 (k + 2 * i), .int .i64 (k + 2 * i + 1)]

theorem rem3 (k : Int) (h : 0 ≤ k) : IntKind.i64.wrap (k.tmod 3) = k.tmod 3 := by
  rw [Int.tmod_eq_emod_of_nonneg h]
  exact wrap64 (by omega) (by omega)

theorem c_markBoolS (xs : List Bool) (k : Int) (v : Nat) (h0 : 0 ≤ k) (h1 : k ≤ 1099511627776) (hl : xs.length ≤ 1048576) :
    ACall Try.prog 1 67 [.row 0 xs.length, .int .i64 k] (hpL [some (.row true v 1 (xs.map encB))]) (.int .i64 (k + xs.length)) (hpL [some (.row true (v + xs.length) 1 ((List.range xs.length).map (mkB k)))]) := by
  refine acall_go (fn := Try.f67) (by kernel_rfl) (by kernel_rfl) (by rfl) (Nat.le_of_ble_eq_true rfl) ?_
  show AGo _ _ _ _ _ ⟨21, _, _⟩
  repeat refine go1 (F := F) rfl ?_
  refine goLoop (X := {i : Nat // i ≤ xs.length}) (fun i => [(0, .row 0 xs.length), (1, .int .i64 (k + i.1)), (5, .int .i64 i.1)]) (fun i => [some (.row true (v + i.1) 1 (marked (mkB k) (xs.map encB) i.1))]) (fun i => xs.length - i.1) (⟨0, Nat.zero_le _⟩) (Le.weak [] (by repeat' first | constructor | omega | (simp; done) | (simp; omega)) (by repeat' first | constructor | omega | (simp; done) | (simp; omega)) (by simp) (by intro i hi; first | omega | (rcases i with _ | _ | _ | i <;> first | (intro _; rfl) | omega))) ?_
  rintro ⟨i, hi⟩
  simp only at hi ⊢
  have hml : (marked (mkB k) (xs.map encB) i).length = xs.length := by rw [marked_len (by simp; omega)]; simp
  repeat refine go1 (F := F) rfl ?_
  refine goEv (F := F) rfl rfl (evQ_len rfl rfl rfl (hml) rfl) ?_
  repeat refine go1 (F := F) rfl ?_
  refine goIf rfl (fun hr => ?_) (fun hr => ?_) <;> (try simp at hr) <;> (repeat refine go1 (F := F) rfl ?_)
  · obtain ⟨b, hx⟩ := at_of (xs := xs) (i := i) (by omega)
    refine goEv (F := F) rfl rfl (evQ_bin rfl rfl rfl (ev_rem (by omega) (rem3 _ (by omega)))) ?_
    repeat refine go1 (F := F) rfl ?_
    refine goRowAt (F := F) rfl rfl rfl rfl rfl rfl (hml) (by omega) (by first | omega | (simp; omega)) rfl rfl ?_
    repeat refine go1 (F := F) rfl ?_
    refine goStoreRow (F := F) rfl rfl rfl rfl rfl (hml) rfl rfl (ds := [.bool (decide (Int.tmod (k + i) 3 = 0))]) (is := []) rfl (by simp) (by simp) (el := encB b) (marked_at (map_at hx)) (Nat.le_of_ble_eq_true rfl) rfl ?_
    repeat refine go1 (F := F) rfl ?_
    rw [wrap64 (n := (i : Int) + 1) (by omega) (by omega), wrap64 (n := k + (i : Int) + 1) (by omega) (by omega)]
    refine goInv ⟨⟨i + 1, by omega⟩, (by simp; omega), (Le.weak [] (by repeat' first | constructor | omega | exact marked_set (by simp; omega) | (simp; done) | (simp; omega)) (by repeat' first | constructor | omega | exact marked_set (by simp; omega) | (simp; done) | (simp; omega)) (by simp) (by intro i hi; first | omega | (rcases i with _ | _ | _ | i <;> first | (intro _; rfl) | omega)))⟩
  · have : i = xs.length := by omega
    subst this
    refine goDoneV (F := F) rfl rfl rfl rfl ?_ ?_
    all_goals first | rfl | (rw [marked_done (by simp)])
theorem c_markMoveS (xs : List Mov) (k : Int) (v : Nat) (h0 : 0 ≤ k) (h1 : k ≤ 1099511627776) (hl : xs.length ≤ 1048576) :
    ACall Try.prog 1 68 [.row 0 xs.length, .int .i64 k] (hpL [some (.row true v 2 (xs.map Mov.enc))]) (.int .i64 (k + 2 * xs.length)) (hpL [some (.row true (v + 2 * xs.length) 2 ((List.range xs.length).map (mkM k)))]) := by
  refine acall_go (fn := Try.f68) (by kernel_rfl) (by kernel_rfl) (by rfl) (Nat.le_of_ble_eq_true rfl) ?_
  show AGo _ _ _ _ _ ⟨27, _, _⟩
  repeat refine go1 (F := F) rfl ?_
  refine goLoop (X := {i : Nat // i ≤ xs.length}) (fun i => [(0, .row 0 xs.length), (1, .int .i64 (k + 2 * i.1)), (5, .int .i64 i.1)]) (fun i => [some (.row true (v + 2 * i.1) 2 (marked (mkM k) (xs.map Mov.enc) i.1))]) (fun i => xs.length - i.1) (⟨0, Nat.zero_le _⟩) (Le.weak [] (by repeat' first | constructor | omega | (simp; done) | (simp; omega)) (by repeat' first | constructor | omega | (simp; done) | (simp; omega)) (by simp) (by intro i hi; first | omega | (rcases i with _ | _ | _ | i <;> first | (intro _; rfl) | omega))) ?_
  rintro ⟨i, hi⟩
  simp only at hi ⊢
  have hml : (marked (mkM k) (xs.map Mov.enc) i).length = xs.length := by rw [marked_len (by simp; omega)]; simp
  repeat refine go1 (F := F) rfl ?_
  refine goEv (F := F) rfl rfl (evQ_len rfl rfl rfl (hml) rfl) ?_
  repeat refine go1 (F := F) rfl ?_
  refine goIf rfl (fun hr => ?_) (fun hr => ?_) <;> (try simp at hr) <;> (repeat refine go1 (F := F) rfl ?_)
  · obtain ⟨⟨a, b⟩, hx⟩ := at_of (xs := xs) (i := i) (by omega)
    refine goRowAt (F := F) rfl rfl rfl rfl rfl rfl (hml) (by omega) (by first | omega | (simp; omega)) rfl rfl ?_
    repeat refine go1 (F := F) rfl ?_
    refine goEv (F := F) rfl rfl (evQ_fdR rfl rfl rfl (hml) rfl rfl) ?_
    repeat refine go1 (F := F) rfl ?_
    refine goStoreRow (F := F) rfl rfl rfl rfl rfl (hml) rfl rfl (ds := [.int .i64 (k + 2 * i)]) (is := []) rfl (by simp) (by simp) (el := Mov.enc ⟨a, b⟩) (marked_at (map_at hx)) (Nat.le_of_ble_eq_true rfl) rfl ?_
    repeat refine go1 (F := F) rfl ?_
    rw [wrap64 (n := k + 2 * (i : Int) + 1) (by omega) (by omega)]
    simp only [Int.toNat_natCast]
    refine goRowAt (F := F) rfl rfl rfl rfl rfl rfl (by simp [hml]) (by omega) (by first | omega | (simp; omega)) rfl rfl ?_
    repeat refine go1 (F := F) rfl ?_
    refine goEv (F := F) rfl rfl (evQ_fdR rfl rfl rfl (by simp [hml]) rfl rfl) ?_
    repeat refine go1 (F := F) rfl ?_
    refine goStoreRow (F := F) rfl rfl rfl rfl rfl (by simp [hml]) rfl rfl (ds := [.int .i64 (k + 2 * i + 1)]) (is := []) rfl (by simp) (by simp) (el := [.int .i64 (k + 2 * i), .int .i64 b]) (List.getElem?_set_self (by rw [hml]; exact hr)) (Nat.le_of_ble_eq_true rfl) rfl ?_
    repeat refine go1 (F := F) rfl ?_
    rw [wrap64 (n := k + 2 * (i : Int) + 1 + 1) (by omega) (by omega), wrap64 (n := (i : Int) + 1) (by omega) (by omega)]
    refine goInv ⟨⟨i + 1, by omega⟩, (by simp; omega), (Le.weak [] (by repeat' first | constructor | omega | exact (by simp only [Int.toNat_natCast]; rw [List.set_set]; exact marked_set (by simp; omega)) | (simp; done) | (simp; omega)) (by repeat' first | constructor | omega | exact (by simp only [Int.toNat_natCast]; rw [List.set_set]; exact marked_set (by simp; omega)) | (simp; done) | (simp; omega)) (by simp) (by intro i hi; first | omega | (rcases i with _ | _ | _ | i <;> first | (intro _; rfl) | omega)))⟩
  · have : i = xs.length := by omega
    subst this
    refine goDoneV (F := F) rfl rfl rfl rfl ?_ ?_
    all_goals first | rfl | (rw [marked_done (by simp)])

theorem c_markMachine (acc : List Bool) (mov : List Mov) (s r k : Int) (v0 v1 : Nat) (h0 : 0 ≤ k) (h1 : k ≤ 1073741824) (ha : acc.length ≤ 1048576) (hm : mov.length ≤ 1048576) :
    ACall Try.prog 2 29 [.agg [.int .i64 s, .int .i64 r, .row 0 acc.length, .row 1 mov.length], .int .i64 k] (hpL [some (.row true v0 1 (acc.map encB)), some (.row true v1 2 (mov.map Mov.enc))])
      (.int .i64 (k + acc.length + 2 * mov.length)) (hpL [some (.row true (v0 + acc.length) 1 ((List.range acc.length).map (mkB k))), some (.row true (v1 + 2 * mov.length) 2 ((List.range mov.length).map (mkM (k + acc.length))))]) := by
  refine acall_go (fn := Try.f29) (by kernel_rfl) (by kernel_rfl) (by rfl) (Nat.le_of_ble_eq_true rfl) ?_
  show AGo _ _ _ _ _ ⟨14, _, _⟩
  repeat refine go1 (F := F) rfl ?_
  refine goCallRef [0] [] rfl rfl rfl rfl (c_markBoolS acc k v0 h0 (by omega) ha) (by repeat' first | exact ⟨by simp, _, _, _, _, rfl, (by first | rfl | (simp; done)), rfl⟩ | constructor | (simp; done)) (by repeat' first | exact ⟨by simp, _, _, _, _, rfl, (by first | rfl | (simp; done)), rfl⟩ | constructor | (simp; done)) rfl rfl rfl rfl rfl (.inl rfl) rfl rfl rfl ?_
  repeat refine go1 (F := F) rfl ?_
  refine goCallRef [1] [] rfl rfl rfl rfl (c_markMoveS mov (k + acc.length) v1 (by omega) (by omega) hm) (by repeat' first | exact ⟨by simp, _, _, _, _, rfl, (by first | rfl | (simp; done)), rfl⟩ | constructor | (simp; done)) (by repeat' first | exact ⟨by simp, _, _, _, _, rfl, (by first | rfl | (simp; done)), rfl⟩ | constructor | (simp; done)) rfl rfl rfl rfl rfl (.inl rfl) rfl rfl rfl ?_
  repeat refine go1 (F := F) rfl ?_
  refine goDoneV (F := F) rfl rfl rfl rfl ?_ ?_
  all_goals rfl

theorem c_heldBoolS (n : Nat) (k : Int) (h0 : 0 ≤ k) (h1 : k ≤ 1099511627776) (hl : n ≤ 1048576) :
    ACall Try.prog 0 69 [.sl .st ((List.range n).map (mkB k)), .int .i64 k] (hpL []) (.int .i64 (k + n)) (hpL []) := by
  refine acall_go (fn := Try.f69) (by kernel_rfl) (by kernel_rfl) (by rfl) (Nat.le_of_ble_eq_true rfl) ?_
  show AGo _ _ _ _ _ ⟨23, _, _⟩
  repeat refine go1 (F := F) rfl ?_
  refine goLoop (X := {i : Nat // i ≤ n}) (fun i => [(0, .sl .st ((List.range n).map (mkB k))), (1, .int .i64 (k + i.1)), (5, .int .i64 i.1)]) (fun _ => []) (fun i => n - i.1) (⟨0, Nat.zero_le _⟩) (Le.weak [] (by repeat' first | constructor | omega | (simp; done) | (simp; omega)) (by repeat' first | constructor | omega | (simp; done) | (simp; omega)) (by simp) (by intro i hi; first | omega | (rcases i with _ | _ | _ | i <;> first | (intro _; rfl) | omega))) ?_
  rintro ⟨i, hi⟩
  simp only at hi ⊢
  repeat refine go1 (F := F) rfl ?_
  rw [List.length_map, List.length_range]
  refine goIf rfl (fun hr => ?_) (fun hr => ?_) <;> (try simp at hr) <;> (repeat refine go1 (F := F) rfl ?_)
  · refine goAt (F := F) rfl rfl rfl rfl rfl rfl (by first | exact Int.natCast_nonneg _ | omega) (range_at hr) rfl rfl (Nat.zero_lt_succ _) ?_
    repeat refine go1 (F := F) rfl ?_
    refine goEv (F := F) rfl rfl (evQ_bin rfl rfl rfl (ev_rem (by omega) (rem3 _ (by omega)))) ?_
    repeat refine go1 (F := F) rfl ?_
    refine goIf rfl (fun h2 => ?_) (fun h2 => ?_)
    · simp at h2
    repeat refine go1 (F := F) rfl ?_
    rw [wrap64 (n := (i : Int) + 1) (by omega) (by omega), wrap64 (n := k + (i : Int) + 1) (by omega) (by omega)]
    refine goInv ⟨⟨i + 1, by omega⟩, (by simp; omega), (Le.weak [] (by repeat' first | constructor | omega | (simp; done) | (simp; omega)) (by repeat' first | constructor | omega | (simp; done) | (simp; omega)) (by simp) (by intro i hi; first | omega | (rcases i with _ | _ | _ | i <;> first | (intro _; rfl) | omega)))⟩
  · have : i = n := by omega
    subst this
    refine goDone (F := F) rfl rfl ?_
    rfl
theorem c_heldMoveS (n : Nat) (k : Int) (h0 : 0 ≤ k) (h1 : k ≤ 1099511627776) (hl : n ≤ 1048576) :
    ACall Try.prog 0 70 [.sl .st ((List.range n).map (mkM k)), .int .i64 k] (hpL []) (.int .i64 (k + 2 * n)) (hpL []) := by
  refine acall_go (fn := Try.f70) (by kernel_rfl) (by kernel_rfl) (by rfl) (Nat.le_of_ble_eq_true rfl) ?_
  show AGo _ _ _ _ _ ⟨31, _, _⟩
  repeat refine go1 (F := F) rfl ?_
  refine goLoop (X := {i : Nat // i ≤ n}) (fun i => [(0, .sl .st ((List.range n).map (mkM k))), (1, .int .i64 (k + 2 * i.1)), (5, .int .i64 i.1)]) (fun _ => []) (fun i => n - i.1) (⟨0, Nat.zero_le _⟩) (Le.weak [] (by repeat' first | constructor | omega | (simp; done) | (simp; omega)) (by repeat' first | constructor | omega | (simp; done) | (simp; omega)) (by simp) (by intro i hi; first | omega | (rcases i with _ | _ | _ | i <;> first | (intro _; rfl) | omega))) ?_
  rintro ⟨i, hi⟩
  simp only at hi ⊢
  repeat refine go1 (F := F) rfl ?_
  rw [List.length_map, List.length_range]
  refine goIf rfl (fun hr => ?_) (fun hr => ?_) <;> (try simp at hr) <;> (repeat refine go1 (F := F) rfl ?_)
  · refine goAt (F := F) rfl rfl rfl rfl rfl rfl (by first | exact Int.natCast_nonneg _ | omega) (range_at hr) rfl rfl (Nat.zero_lt_succ _) ?_
    repeat refine go1 (F := F) rfl ?_
    refine goIf rfl (fun h2 => ?_) (fun h2 => ?_)
    · simp at h2
    repeat refine go1 (F := F) rfl ?_
    rw [wrap64 (n := k + 2 * (i : Int) + 1) (by omega) (by omega)]
    refine goAt (F := F) rfl rfl rfl rfl rfl rfl (by first | exact Int.natCast_nonneg _ | omega) (range_at hr) rfl rfl (Nat.zero_lt_succ _) ?_
    repeat refine go1 (F := F) rfl ?_
    refine goIf rfl (fun h3 => ?_) (fun h3 => ?_)
    · simp at h3
    repeat refine go1 (F := F) rfl ?_
    rw [wrap64 (n := (i : Int) + 1) (by omega) (by omega), wrap64 (n := k + 2 * (i : Int) + 1 + 1) (by omega) (by omega)]
    refine goInv ⟨⟨i + 1, by omega⟩, (by simp; omega), (Le.weak [] (by repeat' first | constructor | omega | (simp; done) | (simp; omega)) (by repeat' first | constructor | omega | (simp; done) | (simp; omega)) (by simp) (by intro i hi; first | omega | (rcases i with _ | _ | _ | i <;> first | (intro _; rfl) | omega)))⟩
  · have : i = n := by omega
    subst this
    refine goDone (F := F) rfl rfl ?_
    rfl
theorem c_heldMachine (n m : Nat) (s r k : Int) (h0 : 0 ≤ k) (h1 : k ≤ 1073741824) (ha : n ≤ 1048576) (hm : m ≤ 1048576) :
    ACall Try.prog 0 30 [.agg [.int .i64 s, .int .i64 r, .sl .st ((List.range n).map (mkB k)), .sl .st ((List.range m).map (mkM (k + n)))], .int .i64 k] (hpL []) (.int .i64 (k + n + 2 * m)) (hpL []) := by
  refine acall_go (fn := Try.f30) (by kernel_rfl) (by kernel_rfl) (by rfl) (Nat.le_of_ble_eq_true rfl) ?_
  show AGo _ _ _ _ _ ⟨18, _, _⟩
  repeat refine go1 (F := F) rfl ?_
  refine goCall [] rfl rfl rfl rfl (c_heldBoolS n k h0 (by omega) ha) (by repeat' first | exact ⟨by simp, _, _, _, _, rfl, (by first | rfl | (simp; done)), rfl⟩ | constructor | (simp; done)) (.inl rfl) rfl rfl ?_
  repeat refine go1 (F := F) rfl ?_
  refine goIf rfl (fun h2 => ?_) (fun h2 => ?_) <;> (try simp at h2) <;> (repeat refine go1 (F := F) rfl ?_)
  · omega
  · refine goCall [] rfl rfl rfl rfl (c_heldMoveS m (k + n) (by omega) (by omega) hm) (by repeat' first | exact ⟨by simp, _, _, _, _, rfl, (by first | rfl | (simp; done)), rfl⟩ | constructor | (simp; done)) (.inl rfl) rfl rfl ?_
    repeat refine go1 (F := F) rfl ?_
    refine goIf rfl (fun h3 => ?_) (fun h3 => ?_) <;> (try simp at h3) <;> (repeat refine go1 (F := F) rfl ?_)
    · omega
    · refine goDone (F := F) rfl rfl ?_
      rfl
end Go.Proofs.Ma
