/- Part of a proof over the seat Ytjdmlcpngddgaaa: what the text lends is said at its theorems. -/
import Derived.Test.YtjdmlcpngddgaaaIx4
import Derived.Test.YtjdmlcpngddgaaaAlLst
set_option linter.unusedVariables false
set_option linter.unusedSimpArgs false
set_option maxRecDepth 20000
namespace Go.Proofs.Ma
open Go Go.Al Go.Proofs
open Go.Proofs.Tst (c_l1In c_l1Atom c_isAtom mixed)

def tyL : List (Nat × TyI) := [
  (3, ⟨1, 8, some [.int .i64 0], none, .int .i64⟩),
  (4, ⟨1, 1, some [.bool false], none, .bool⟩),
  (34, ⟨1, 24, some [.nil], none, .slice 4⟩),
  (35, ⟨1, 24, some [.nil], none, .slice 117⟩),
  (37, ⟨4, 64, some [.int .i64 0, .int .i64 0, .nil, .nil], some [(0, 1), (1, 1), (2, 1), (3, 1)], .struct [(0, 3), (1, 3), (2, 34), (3, 35)]⟩),
  (40, ⟨1, 24, some [.nil], none, .slice 86⟩),
  (42, ⟨4, 64, some [.int .i64 0, .int .i64 0, .nil, .nil], some [(0, 1), (1, 1), (2, 1), (3, 1)], .struct [(0, 3), (1, 3), (2, 34), (3, 40)]⟩),
  (86, ⟨2, 16, some [.int .i64 0, .int .i64 0], some [(0, 1), (1, 1)], .struct [(0, 3), (1, 3)]⟩),
  (117, ⟨2, 16, some [.int .i64 0, .int .i64 0], some [(0, 1), (1, 1)], .struct [(0, 3), (1, 3)]⟩)]
noncomputable def F : Ty := tyO tyL (tyI Try.prog)
instance : TyF Try.prog F := ⟨tyO_eq ⟨by kernel_rfl, by kernel_rfl, by kernel_rfl, by kernel_rfl, by kernel_rfl, by kernel_rfl, by kernel_rfl, by kernel_rfl, by kernel_rfl, trivial⟩⟩

structure Mov where
  mk ::
  to : Int
  store : Int
def Mov.enc : Mov → List D
  | ⟨a, b⟩ => [.int .i64 a, .int .i64 b]
def encB (b : Bool) : List D := [.bool b]
structure Mach where
  mk ::
  s : Int
  r : Int
  acc : List Bool
  mov : List Mov
def Mach.enc : Mach → List D
  | ⟨s, r, acc, mov⟩ => [.int .i64 s, .int .i64 r, .sl (acc.map encB), .sl (mov.map Mov.enc)]

theorem c_szBoolS (xs : List (List D)) (m : Int) (h0 : 0 ≤ m) (h1 : m ≤ 1073741824) : ACall Try.prog 0 56 [.sl .st xs, .int .i64 m] (hpL []) (.int .i64 (if m - xs.length < 0 then -1 else m - xs.length)) (hpL []) := by
  refine acall_gob (fn := Try.f56) (by kernel_rfl) (by kernel_rfl) (by rfl) (Nat.le_of_ble_eq_true rfl) fun hb => ?_
  show AGo _ _ _ _ _ ⟨12, _, _⟩
  repeat refine go1 (F := F) rfl ?_
  have hl := hb.1.of_sl.1
  simp only [maxLen] at hl
  rw [wrap64 (n := m - xs.length) (by omega) (by omega)]
  refine goIf rfl (fun hr => ?_) (fun hr => ?_) <;> (try simp at hr) <;> (repeat refine go1 (F := F) rfl ?_)
  · refine goDone (F := F) rfl rfl ?_
    rw [if_pos (by omega)]
  · refine goDone (F := F) rfl rfl ?_
    rw [if_neg (by omega)]

theorem c_szMoveS (xs : List (List D)) (m : Int) (h0 : 0 ≤ m) (h1 : m ≤ 1073741824) : ACall Try.prog 0 57 [.sl .st xs, .int .i64 m] (hpL []) (.int .i64 (if m - xs.length < 0 then -1 else m - xs.length)) (hpL []) := by
  refine acall_gob (fn := Try.f57) (by kernel_rfl) (by kernel_rfl) (by rfl) (Nat.le_of_ble_eq_true rfl) fun hb => ?_
  show AGo _ _ _ _ _ ⟨12, _, _⟩
  repeat refine go1 (F := F) rfl ?_
  have hl := hb.1.of_sl.1
  simp only [maxLen] at hl
  rw [wrap64 (n := m - xs.length) (by omega) (by omega)]
  refine goIf rfl (fun hr => ?_) (fun hr => ?_) <;> (try simp at hr) <;> (repeat refine go1 (F := F) rfl ?_)
  · refine goDone (F := F) rfl rfl ?_
    rw [if_pos (by omega)]
  · refine goDone (F := F) rfl rfl ?_
    rw [if_neg (by omega)]

theorem c_toBoolS (xs : List Bool) (hl : xs.length ≤ 1048576) : ACall Try.prog 0 60 [.sl .st (xs.map encB)] (hpL []) (.sl (.inn 1) (xs.map encB)) (hpL []) := by
  refine acall_go (fn := Try.f60) (by kernel_rfl) (by kernel_rfl) (by rfl) (Nat.le_of_ble_eq_true rfl) ?_
  show AGo _ _ _ _ _ ⟨22, _, _⟩
  repeat refine go1 (F := F) rfl ?_
  rw [List.length_map]
  refine goMake (F := F) rfl rfl rfl rfl rfl (by omega) (by omega) rfl rfl rfl (Nat.le_of_ble_eq_true rfl) rfl rfl (Nat.zero_lt_succ _) rfl rfl rfl ?_
  repeat refine go1 (F := F) rfl ?_
  refine goLoop (X := {i : Nat // i ≤ xs.length}) (fun i => [(0, .sl .st (xs.map encB)), (3, .row 0 xs.length), (4, .int .i64 i.1)]) (fun i => [some (.row true (1 + i.1) 1 (filled (xs.map encB) xs.length i.1 [.bool false]))]) (fun i => xs.length - i.1) (⟨0, Nat.zero_le _⟩) (Le.weak [] (by repeat' first | constructor | omega | (simp; done) | (simp; omega)) (by repeat' first | constructor | omega | (simp; done) | (simp; omega)) (by simp) (by intro i hi; first | omega | (rcases i with _ | _ | _ | i <;> first | (intro _; rfl) | omega))) ?_
  rintro ⟨i, hi⟩
  simp only at hi ⊢
  repeat refine go1 (F := F) rfl ?_
  rw [List.length_map]
  refine goIf rfl (fun hr => ?_) (fun hr => ?_) <;> (try simp at hr) <;> (repeat refine go1 (F := F) rfl ?_)
  · obtain ⟨b, hx⟩ := at_of (xs := xs) (i := i) (by omega)
    refine goAt (F := F) rfl rfl rfl rfl rfl rfl (by first | exact Int.natCast_nonneg _ | omega) (map_at hx) rfl rfl (Nat.zero_lt_succ _) ?_
    repeat refine go1 (F := F) rfl ?_
    refine goRowAt (F := F) rfl rfl rfl rfl rfl rfl (filled_len (List.length_map ..) (by omega)) (by omega) (by simp; omega) rfl rfl ?_
    refine goStoreRow (F := F) rfl rfl rfl rfl rfl (filled_len (List.length_map ..) (by omega)) rfl rfl (ds := [.bool b]) (is := []) rfl (by simp) (by simp) (el := [.bool false]) (filled_at (List.length_map ..) (by first | omega | (simp; omega))) (Nat.le_of_ble_eq_true rfl) rfl ?_
    repeat refine go1 (F := F) rfl ?_
    rw [wrap64 (n := (i : Int) + 1) (by omega) (by omega)]
    refine goInv ⟨⟨i + 1, by omega⟩, by simp only; omega, Le.weak [] ?_ ?_ (by simp) (by omega)⟩
    · repeat' constructor
    · refine ⟨⟨rfl, (by show 1 + i + 1 = 1 + (i + 1); omega), rfl, ?_⟩, trivial⟩
      exact filled_set (List.length_map ..) (map_at hx)
  · have : i = xs.length := by omega
    subst this
    refine goFin (F := F) rfl ?_ ?_ ?_
    · simp [expOkT, expOkA, expOk, hpL, filled_done]
    · simp [expET, expEA, expE1]
    · simp [expGT, expGA, expG1]

theorem c_toMove (x : Mov) : ACall Try.prog 0 95 [.agg (x.enc.map (MD .st))] (hpL []) (.agg [.int .i64 x.to, .int .i64 x.store]) (hpL []) := by
  obtain ⟨a, b⟩ := x
  refine acall_go (fn := Try.f95) (by kernel_rfl) (by kernel_rfl) (by rfl) (Nat.le_of_ble_eq_true rfl) ?_
  show AGo _ _ _ _ _ ⟨11, _, _⟩
  repeat refine go1 (F := F) rfl ?_
  refine goFin (F := F) rfl ?_ ?_ ?_
  · simp [expOkT, expOkA, expOks, expOkAs, expOk, hpL]
  · simp [expET, expEA, expEs, expEAs, expE1]
  · simp [expGT, expGA, expGs, expGAs, expG1]
theorem c_toMoveS (xs : List Mov) (hl : xs.length ≤ 1048576) : ACall Try.prog 0 61 [.sl .st (xs.map Mov.enc)] (hpL []) (.sl (.inn 2) (xs.map Mov.enc)) (hpL []) := by
  refine acall_go (fn := Try.f61) (by kernel_rfl) (by kernel_rfl) (by rfl) (Nat.le_of_ble_eq_true rfl) ?_
  show AGo _ _ _ _ _ ⟨23, _, _⟩
  repeat refine go1 (F := F) rfl ?_
  rw [List.length_map]
  refine goMake (F := F) rfl rfl rfl rfl rfl (by omega) (by omega) rfl rfl rfl (Nat.le_of_ble_eq_true rfl) rfl rfl (Nat.zero_lt_succ _) rfl rfl rfl ?_
  repeat refine go1 (F := F) rfl ?_
  refine goLoop (X := {i : Nat // i ≤ xs.length}) (fun i => [(0, .sl .st (xs.map Mov.enc)), (3, .row 0 xs.length), (4, .int .i64 i.1)]) (fun i => [some (.row true (1 + i.1) 2 (filled (xs.map Mov.enc) xs.length i.1 [.int .i64 0, .int .i64 0]))]) (fun i => xs.length - i.1) (⟨0, Nat.zero_le _⟩) (Le.weak [] (by repeat' first | constructor | omega | (simp; done) | (simp; omega)) (by repeat' first | constructor | omega | (simp; done) | (simp; omega)) (by simp) (by intro i hi; first | omega | (rcases i with _ | _ | _ | i <;> first | (intro _; rfl) | omega))) ?_
  rintro ⟨i, hi⟩
  simp only at hi ⊢
  repeat refine go1 (F := F) rfl ?_
  rw [List.length_map]
  refine goIf rfl (fun hr => ?_) (fun hr => ?_) <;> (try simp at hr) <;> (repeat refine go1 (F := F) rfl ?_)
  · obtain ⟨⟨a, b⟩, hx⟩ := at_of (xs := xs) (i := i) (by omega)
    refine goAt (F := F) rfl rfl rfl rfl rfl rfl (by first | exact Int.natCast_nonneg _ | omega) (map_at hx) rfl rfl (Nat.zero_lt_succ _) ?_
    repeat refine go1 (F := F) rfl ?_
    refine goCall [] rfl rfl rfl rfl (c_toMove ⟨a, b⟩) (by repeat' first | exact ⟨by simp, _, _, _, _, rfl, (by first | rfl | (simp; done)), rfl⟩ | constructor | (simp; done)) (.inl rfl) rfl rfl ?_
    repeat refine go1 (F := F) rfl ?_
    refine goRowAt (F := F) rfl rfl rfl rfl rfl rfl (filled_len (List.length_map ..) (by omega)) (by omega) (by simp; omega) rfl rfl ?_
    refine goStoreRow (F := F) rfl rfl rfl rfl rfl (filled_len (List.length_map ..) (by omega)) rfl rfl (ds := [.int .i64 a, .int .i64 b]) (is := []) rfl (by simp) (by simp) (el := [.int .i64 0, .int .i64 0]) (filled_at (List.length_map ..) (by first | omega | (simp; omega))) (Nat.le_of_ble_eq_true rfl) rfl ?_
    repeat refine go1 (F := F) rfl ?_
    rw [wrap64 (n := (i : Int) + 1) (by omega) (by omega)]
    refine goInv ⟨⟨i + 1, by omega⟩, by simp only; omega, Le.weak [] ?_ ?_ (by simp) (by omega)⟩
    · repeat' constructor
    · refine ⟨⟨rfl, (by show 1 + i + 1 = 1 + (i + 1); omega), rfl, ?_⟩, trivial⟩
      exact filled_set (List.length_map ..) (map_at hx)
  · have : i = xs.length := by omega
    subst this
    refine goFin (F := F) rfl ?_ ?_ ?_
    · simp [expOkT, expOkA, expOk, hpL, filled_done]
    · simp [expET, expEA, expE1]
    · simp [expGT, expGA, expG1]

theorem c_eqBoolS (xs : List Bool) : ACall Try.prog 0 62 [.sl .st (xs.map encB), .sl .st (xs.map encB)] (hpL []) (.bool true) (hpL []) := by
  refine acall_gob (fn := Try.f62) (by kernel_rfl) (by kernel_rfl) (by rfl) (Nat.le_of_ble_eq_true rfl) fun hb => ?_
  show AGo _ _ _ _ _ ⟨26, _, _⟩
  repeat refine go1 (F := F) rfl ?_
  have hl := hb.1.of_sl.1
  simp only [maxLen, List.length_map] at hl
  refine goIf rfl (fun h3 => ?_) (fun h3 => ?_)
  · simp at h3
  repeat refine go1 (F := F) rfl ?_
  refine goLoop (X := {i : Nat // i ≤ xs.length}) (fun i => [(0, .sl .st (xs.map encB)), (1, .sl .st (xs.map encB)), (5, .int .i64 i.1)]) (fun _ => []) (fun i => xs.length - i.1) (⟨0, Nat.zero_le _⟩) (Le.weak [] (by repeat' first | constructor | omega | (simp; done) | (simp; omega)) (by repeat' first | constructor | omega | (simp; done) | (simp; omega)) (by simp) (by intro i hi; first | omega | (rcases i with _ | _ | _ | i <;> first | (intro _; rfl) | omega))) ?_
  rintro ⟨i, hi⟩
  simp only at hi ⊢
  repeat refine go1 (F := F) rfl ?_
  rw [List.length_map]
  refine goIf rfl (fun hr => ?_) (fun hr => ?_) <;> (try simp at hr) <;> (repeat refine go1 (F := F) rfl ?_)
  · obtain ⟨b, hx⟩ := at_of (xs := xs) (i := i) (by omega)
    refine goDraw ?_
    repeat first | refine dgo1 (F := F) rfl ?_ | refine dgoAlloc (F := F) rfl rfl rfl rfl rfl rfl rfl ?_
    refine dgoAt (F := F) rfl rfl rfl rfl rfl rfl rfl (by first | exact Int.natCast_nonneg _ | omega) (map_at hx) rfl rfl (Nat.zero_lt_succ _) ?_
    repeat first | refine dgo1 (F := F) rfl ?_ | refine dgoAlloc (F := F) rfl rfl rfl rfl rfl rfl rfl ?_
    refine dgoAt (F := F) rfl rfl rfl rfl rfl rfl rfl (by first | exact Int.natCast_nonneg _ | omega) (map_at hx) rfl rfl (Nat.zero_lt_succ _) ?_
    repeat first | refine dgo1 (F := F) rfl ?_ | refine dgoAlloc (F := F) rfl rfl rfl rfl rfl rfl rfl ?_
    refine dgoEnd (L := []) mixed (by kernel_rfl) (by kernel_rfl) trivial ?_
    repeat refine go1 (F := F) rfl ?_
    repeat refine go1 (F := F) rfl ?_
    refine goIf rfl (fun h4 => ?_) (fun h4 => ?_)
    · simp at h4
    repeat refine go1 (F := F) rfl ?_
    rw [wrap64 (n := (i : Int) + 1) (by omega) (by omega)]
    refine goInv ⟨⟨i + 1, by omega⟩, (by simp; omega), (Le.weak [] (by repeat' first | constructor | omega | (simp; done) | (simp; omega)) (by repeat' first | constructor | omega | (simp; done) | (simp; omega)) (by simp) (by intro i hi; first | omega | (rcases i with _ | _ | _ | i <;> first | (intro _; rfl) | omega)))⟩
  · refine goDone (F := F) rfl rfl ?_
    rfl

theorem c_eqMove (x : Mov) : ACall Try.prog 0 96 [.agg (x.enc.map (MD .st)), .agg (x.enc.map (MD .st))] (hpL []) (.bool true) (hpL []) := by
  obtain ⟨a, b⟩ := x
  refine acall_go (fn := Try.f96) (by kernel_rfl) (by kernel_rfl) (by rfl) (Nat.le_of_ble_eq_true rfl) ?_
  show AGo _ _ _ _ _ ⟨15, _, _⟩
  repeat refine go1 (F := F) rfl ?_
  refine goIf rfl (fun h1 => ?_) (fun h1 => ?_)
  · simp at h1
  repeat refine go1 (F := F) rfl ?_
  refine goIf rfl (fun h2 => ?_) (fun h2 => ?_)
  · simp at h2
  repeat refine go1 (F := F) rfl ?_
  refine goDone (F := F) rfl rfl ?_
  rfl
theorem c_eqMoveS (xs : List Mov) : ACall Try.prog 0 63 [.sl .st (xs.map Mov.enc), .sl .st (xs.map Mov.enc)] (hpL []) (.bool true) (hpL []) := by
  refine acall_gob (fn := Try.f63) (by kernel_rfl) (by kernel_rfl) (by rfl) (Nat.le_of_ble_eq_true rfl) fun hb => ?_
  show AGo _ _ _ _ _ ⟨27, _, _⟩
  repeat refine go1 (F := F) rfl ?_
  have hl := hb.1.of_sl.1
  simp only [maxLen, List.length_map] at hl
  refine goIf rfl (fun h3 => ?_) (fun h3 => ?_)
  · simp at h3
  repeat refine go1 (F := F) rfl ?_
  refine goLoop (X := {i : Nat // i ≤ xs.length}) (fun i => [(0, .sl .st (xs.map Mov.enc)), (1, .sl .st (xs.map Mov.enc)), (5, .int .i64 i.1)]) (fun _ => []) (fun i => xs.length - i.1) (⟨0, Nat.zero_le _⟩) (Le.weak [] (by repeat' first | constructor | omega | (simp; done) | (simp; omega)) (by repeat' first | constructor | omega | (simp; done) | (simp; omega)) (by simp) (by intro i hi; first | omega | (rcases i with _ | _ | _ | i <;> first | (intro _; rfl) | omega))) ?_
  rintro ⟨i, hi⟩
  simp only at hi ⊢
  repeat refine go1 (F := F) rfl ?_
  rw [List.length_map]
  refine goIf rfl (fun hr => ?_) (fun hr => ?_) <;> (try simp at hr) <;> (repeat refine go1 (F := F) rfl ?_)
  · obtain ⟨⟨a, b⟩, hx⟩ := at_of (xs := xs) (i := i) (by omega)
    refine goDraw ?_
    repeat first | refine dgo1 (F := F) rfl ?_ | refine dgoAlloc (F := F) rfl rfl rfl rfl rfl rfl rfl ?_
    refine dgoAt (F := F) rfl rfl rfl rfl rfl rfl rfl (by first | exact Int.natCast_nonneg _ | omega) (map_at hx) rfl rfl (Nat.zero_lt_succ _) ?_
    repeat first | refine dgo1 (F := F) rfl ?_ | refine dgoAlloc (F := F) rfl rfl rfl rfl rfl rfl rfl ?_
    refine dgoAt (F := F) rfl rfl rfl rfl rfl rfl rfl (by first | exact Int.natCast_nonneg _ | omega) (map_at hx) rfl rfl (Nat.zero_lt_succ _) ?_
    repeat first | refine dgo1 (F := F) rfl ?_ | refine dgoAlloc (F := F) rfl rfl rfl rfl rfl rfl rfl ?_
    refine dgoCall [] rfl rfl rfl rfl rfl (c_eqMove ⟨a, b⟩) (by repeat' first | exact ⟨by simp, _, _, _, _, rfl, (by first | rfl | (simp; done)), rfl⟩ | constructor | (simp; done)) (.inl rfl) rfl rfl rfl ?_
    repeat first | refine dgo1 (F := F) rfl ?_ | refine dgoAlloc (F := F) rfl rfl rfl rfl rfl rfl rfl ?_
    refine dgoEnd (L := []) mixed (by kernel_rfl) (by kernel_rfl) trivial ?_
    repeat refine go1 (F := F) rfl ?_
    repeat refine go1 (F := F) rfl ?_
    skip
    skip
    repeat refine go1 (F := F) rfl ?_
    rw [wrap64 (n := (i : Int) + 1) (by omega) (by omega)]
    refine goInv ⟨⟨i + 1, by omega⟩, (by simp; omega), (Le.weak [] (by repeat' first | constructor | omega | (simp; done) | (simp; omega)) (by repeat' first | constructor | omega | (simp; done) | (simp; omega)) (by simp) (by intro i hi; first | omega | (rcases i with _ | _ | _ | i <;> first | (intro _; rfl) | omega)))⟩
  · refine goDone (F := F) rfl rfl ?_
    rfl

end Go.Proofs.Ma
