/- Part of a proof over the seat Ytjdmlcpngddgaaa: what the text lends is said at its theorems. -/
import Derived.Test.YtjdmlcpngddgaaaMa4
import Derived.Test.YtjdmlcpngddgaaaAlApp
set_option linter.unusedVariables false
set_option linter.unusedSimpArgs false
set_option maxRecDepth 20000
namespace Go.Proofs.Ma
open Go Go.Al Go.Proofs
open Go.Proofs.Tst (c_l1In c_l1Atom c_isAtom mixed)

theorem flatMov (xs : List Mov) : ∀ cs ∈ xs.map Mov.enc, ∀ d ∈ cs, flatD d = true := by
  intro cs hcs d hd
  obtain ⟨x, _, rfl⟩ := List.mem_map.1 hcs
  simp [Mov.enc] at hd
  rcases hd with rfl | rfl <;> rfl
theorem lenMov (xs : List Mov) : ∀ cs ∈ xs.map Mov.enc, cs.length = 2 := by
  intro cs hcs
  obtain ⟨x, _, rfl⟩ := List.mem_map.1 hcs
  rfl
theorem c_CloneMove (xs : List Mov) (hl : xs.length ≤ 1048576) : ACall Try.prog 0 66 [.sl .st (xs.map Mov.enc)] (hpL []) (.sl (.inn 2) (xs.map Mov.enc)) (hpL []) := by
  refine acall_go (fn := Try.f66) (by kernel_rfl) (by kernel_rfl) (by rfl) (Nat.le_of_ble_eq_true rfl) ?_
  show AGo _ _ _ _ _ ⟨8, _, _⟩
  repeat refine go1 (F := F) rfl ?_
  refine goNil (F := F) rfl rfl rfl (.inl rfl) rfl rfl rfl rfl (by intro cs hcs; rw [lenMov xs cs hcs]; omega) fun b hb => ?_
  repeat refine go1 (F := F) rfl ?_
  refine goIf rfl (fun h1 => ?_) (fun h1 => ?_) <;> (try simp [isEql] at h1) <;> (repeat refine go1 (F := F) rfl ?_)
  · refine goFin (F := F) rfl (by simp [expOkT, expOkA, expOks, expOkAs, expOk, hpL]; simpa using hb h1) (by simp [expET, expEA, expEs, expEAs, expE1]) (by simp [expGT, expGA, expGs, expGAs, expG1])
  · refine goBuild (F := F) true (e := 2) rfl rfl rfl rfl rfl rfl (Nat.zero_lt_succ _) rfl rfl rfl rfl rfl rfl (Nat.le_of_ble_eq_true rfl) rfl ?_
    repeat refine go1 (F := F) rfl ?_
    refine goApp (F := F) rfl rfl rfl rfl rfl rfl rfl rfl (Nat.zero_lt_succ _) rfl rfl (by first | rfl | (simp; done) | (simp; omega) | omega) (.flat rfl (lenMov xs) (flatMov xs)) rfl (by first | omega | (simp; omega) | simp) (Nat.zero_lt_succ _) rfl ?_
    repeat refine go1 (F := F) rfl ?_
    refine goFin (F := F) rfl ?_ ?_ ?_
    · simp [expOkT, expOkA, expOks, expOkAs, expOk, hpL]
    · simp [expET, expEA, expEs, expEAs, expE1]
    · simp [expGT, expGA, expGs, expGAs, expG1]

def zMach : Mach := ⟨0, 0, [], []⟩
def compM (x : Mach) : Mach := if isM x = true then ⟨x.s, x.r, x.acc.map (!·), x.mov⟩ else zMach
def Mach.own : Mach → AV
  | ⟨s, r, acc, mov⟩ => .agg [.int .i64 s, .int .i64 r, .sl (.inn 1) (acc.map encB), .sl (.inn 2) (mov.map Mov.enc)]

theorem isM_ok {x : Mach} (h : isM x = true) : 1 ≤ x.s ∧ x.s ≤ 9 ∧ 0 ≤ x.r ∧ x.r ≤ 3 ∧ x.acc.length = x.s ∧ x.mov.length = x.s * 2 ^ x.r.toNat ∧ x.mov.length ≤ 72 := by
  simp only [isM, Bool.and_eq_true, decide_eq_true_eq] at h
  obtain ⟨⟨h1, h2, h3, h4, h5, h6⟩, _⟩ := h
  have := mulpow h1 h2 h3 h4
  exact ⟨h1, h2, h3, h4, h5, h6, by omega⟩

theorem c_ComplementMachine (x : Mach) : ACall Try.prog 0 28 [.agg (x.enc.map (MD .st))] (hpL []) (compM x).own (hpL []) := by
  obtain ⟨s, r, acc, mov⟩ := x
  generalize hres : compM ⟨s, r, acc, mov⟩ = res
  unfold compM at hres
  simp only at hres
  refine acall_go (fn := Try.f28) (by kernel_rfl) (by kernel_rfl) (by rfl) (Nat.le_of_ble_eq_true rfl) ?_
  show AGo _ _ _ _ _ ⟨34, _, _⟩
  repeat refine go1 (F := F) rfl ?_
  refine goCall [] rfl rfl rfl rfl (c_IsMachine ⟨s, r, acc, mov⟩) (by repeat' first | exact ⟨by simp, _, _, _, _, rfl, (by first | rfl | (simp; done)), rfl⟩ | constructor | (simp; done)) (.inl rfl) rfl rfl ?_
  repeat refine go1 (F := F) rfl ?_
  refine goIf rfl (fun h1 => ?_) (fun h1 => ?_) <;> (try simp at h1) <;> (repeat refine go1 (F := F) rfl ?_)
  · rw [h1] at hres
    simp at hres
    subst hres
    refine goFin (F := F) rfl ?_ ?_ ?_
    · simp [expOkT, expOkA, expOks, expOkAs, expOk, hpL, zMach, Mach.own]
    · simp [expET, expEA, expEs, expEAs, expE1, zMach, Mach.own]
    · simp [expGT, expGA, expGs, expGAs, expG1, zMach, Mach.own]
  · rw [if_pos h1] at hres
    subst hres
    obtain ⟨h2, h3, h4, h5, h6, h7, h8⟩ := isM_ok h1
    simp only at h2 h3 h4 h5 h6 h7 h8
    refine goDraw ?_
    repeat first | refine dgo1 (F := F) rfl ?_ | refine dgoAlloc (F := F) rfl rfl rfl rfl rfl rfl rfl ?_
    refine dgoCall [] rfl rfl rfl rfl rfl (c_CloneMove mov (by omega)) (by repeat' first | exact ⟨by simp, _, _, _, _, rfl, (by first | rfl | (simp; done)), rfl⟩ | constructor | (simp; done)) (.inl rfl) rfl rfl rfl ?_
    repeat first | refine dgo1 (F := F) rfl ?_ | refine dgoAlloc (F := F) rfl rfl rfl rfl rfl rfl rfl ?_
    refine dgoEndFQ (F := F) mixed 8 [(0, 7), (1, 7), (2, 7), (3, 7)] (by kernel_rfl) (by kernel_rfl) (by kernel_rfl) (by kernel_rfl) (by kernel_rfl) ?_
    repeat refine go1 (F := F) rfl ?_
    refine goMatBox 3 2 1 true (Nat.le_of_ble_eq_true rfl) rfl rfl rfl rfl rfl ?_
    rw [List.length_map, List.length_map]
    refine goLoop (X := {i : Nat // i ≤ acc.length}) (fun i => [(2, .ptr 1 0), (3, .ptr 3 0), (19, .sl .st (acc.map encB)), (20, .int .i64 acc.length), (21, .int .i64 i.1)]) (fun i => [none, some (.box [.int .i64 0, .int .i64 0, .nil, .nil]), some (.row true 0 2 (mov.map Mov.enc)), some (.box [.int .i64 s, .int .i64 r, .row 4 i.1, .row 2 mov.length]), some (.row true i.1 1 (((acc.map (!·)).map encB).take i.1))]) (fun i => acc.length - i.1) (⟨0, Nat.zero_le _⟩) (Le.weak [] (by repeat' first | constructor | omega | (simp; done) | (simp; omega)) (by repeat' first | constructor | omega | (simp; done) | (simp; omega)) (by simp) (by intro i hi; first | omega | (rcases i with _ | _ | _ | i <;> first | (intro _; rfl) | omega))) ?_
    rintro ⟨i, hi⟩
    simp only at hi ⊢
    repeat refine go1 (F := F) rfl ?_
    refine goIf rfl (fun hr => ?_) (fun hr => ?_) <;> (try simp at hr) <;> (repeat refine go1 (F := F) rfl ?_)
    · obtain ⟨b, hx⟩ := at_of (xs := acc) (i := i) (by omega)
      refine goAt (F := F) rfl rfl rfl rfl rfl rfl (by first | exact Int.natCast_nonneg _ | omega) (map_at hx) rfl rfl (Nat.zero_lt_succ _) ?_
      repeat refine go1 (F := F) rfl ?_
      refine goBuild (F := F) true (e := 1) rfl rfl rfl rfl rfl rfl (Nat.zero_lt_succ _) rfl rfl rfl rfl rfl rfl (Nat.le_of_ble_eq_true rfl) rfl ?_
      repeat refine go1 (F := F) rfl ?_
      refine goApp (F := F) rfl rfl rfl rfl rfl rfl rfl rfl (Nat.zero_lt_succ _) rfl rfl (by first | rfl | (simp; done) | (simp; omega) | omega) (.rowFlat rfl rfl (by intro cs hcs d hd; simp at hcs; subst hcs; simp at hd; subst hd; rfl)) rfl (by first | omega | (simp; omega) | simp) (Nat.zero_lt_succ _) rfl ?_
      repeat refine go1 (F := F) rfl ?_
      rw [wrap64 (n := (i : Int) + 1) (by omega) (by omega)]
      refine goInv ⟨⟨i + 1, by omega⟩, (by simp; omega), (Le.weak [] (by repeat' first | constructor | omega | exact (take_cons (map_at (map_at hx))).symm | (simp; done) | (simp; omega)) (by repeat' first | constructor | omega | exact (take_cons (map_at (map_at hx))).symm | (simp; done) | (simp; omega)) (by simp) (by intro i hi; first | omega | (rcases i with _ | _ | _ | i <;> first | (intro _; rfl) | omega)))⟩
    · have : i = acc.length := by omega
      subst this
      refine goFin (F := F) rfl (by simp [expOkT, expOkA, expOks, expOkAs, expOk, hpL, Mach.own]; rw [List.take_of_length_le (by simp)]) (by simp [expET, expEA, expEs, expEAs, expE1, Mach.own]) (by simp [expGT, expGA, expGs, expGAs, expG1, Mach.own])

theorem c_specComplementMachine (x : Mach) : ACall Try.prog 0 27 [.agg (x.enc.map (MD .st))] (hpL []) (compM x).own (hpL []) := by
  obtain ⟨s, r, acc, mov⟩ := x
  generalize hres : compM ⟨s, r, acc, mov⟩ = res
  unfold compM at hres
  simp only at hres
  refine acall_go (fn := Try.f27) (by kernel_rfl) (by kernel_rfl) (by rfl) (Nat.le_of_ble_eq_true rfl) ?_
  show AGo _ _ _ _ _ ⟨35, _, _⟩
  repeat refine go1 (F := F) rfl ?_
  refine goCall [] rfl rfl rfl rfl (c_specIsMachine ⟨s, r, acc, mov⟩) (by repeat' first | exact ⟨by simp, _, _, _, _, rfl, (by first | rfl | (simp; done)), rfl⟩ | constructor | (simp; done)) (.inl rfl) rfl rfl ?_
  repeat refine go1 (F := F) rfl ?_
  refine goIf rfl (fun h1 => ?_) (fun h1 => ?_) <;> (try simp at h1) <;> (repeat refine go1 (F := F) rfl ?_)
  · rw [h1] at hres
    simp at hres
    subst hres
    refine goFin (F := F) rfl ?_ ?_ ?_
    · simp [expOkT, expOkA, expOks, expOkAs, expOk, hpL, zMach, Mach.own]
    · simp [expET, expEA, expEs, expEAs, expE1, zMach, Mach.own]
    · simp [expGT, expGA, expGs, expGAs, expG1, zMach, Mach.own]
  · rw [if_pos h1] at hres
    subst hres
    obtain ⟨h2, h3, h4, h5, h6, h7, h8⟩ := isM_ok h1
    simp only at h2 h3 h4 h5 h6 h7 h8
    refine goDraw ?_
    repeat first | refine dgo1 (F := F) rfl ?_ | refine dgoAlloc (F := F) rfl rfl rfl rfl rfl rfl rfl ?_
    refine dgoLoud rfl rfl rfl (build_ok (F := F) true (e := 2) rfl rfl rfl rfl (Nat.zero_lt_succ _) rfl rfl rfl rfl rfl rfl (Nat.le_of_ble_eq_true rfl) rfl) ?_
    repeat first | refine dgo1 (F := F) rfl ?_ | refine dgoAlloc (F := F) rfl rfl rfl rfl rfl rfl rfl ?_
    refine dgoLoud rfl rfl rfl (app_ok (F := F) rfl rfl rfl rfl rfl rfl (Nat.zero_lt_succ _) rfl rfl (by first | rfl | (simp; done) | (simp; omega) | omega) (.flat rfl (lenMov mov) (flatMov mov)) rfl (by first | omega | (simp; omega) | simp) (Nat.zero_lt_succ _) rfl) ?_
    repeat first | refine dgo1 (F := F) rfl ?_ | refine dgoAlloc (F := F) rfl rfl rfl rfl rfl rfl rfl ?_
    refine dgoEndFQ (F := F) mixed 9 [(0, 5), (0, 8), (1, 5), (1, 8), (2, 5), (2, 8), (3, 5), (3, 8), (5, 0), (6, 0)] (by kernel_rfl) (by kernel_rfl) (by kernel_rfl) (by kernel_rfl) (by kernel_rfl) ?_
    repeat refine go1 (F := F) rfl ?_
    refine goMatBox 3 2 1 true (Nat.le_of_ble_eq_true rfl) rfl rfl rfl rfl rfl ?_
    simp only [List.length_map, Nat.zero_add, List.nil_append]
    refine goLoop (X := {i : Nat // i ≤ acc.length}) (fun i => [(2, .ptr 1 0), (3, .ptr 3 0), (20, .sl .st (acc.map encB)), (21, .int .i64 acc.length), (22, .int .i64 i.1)]) (fun i => [none, some (.box [.int .i64 0, .int .i64 0, .nil, .nil]), some (.row true 2 2 (mov.map Mov.enc)), some (.box [.int .i64 s, .int .i64 r, .row 4 i.1, .row 2 mov.length]), some (.row true i.1 1 (((acc.map (!·)).map encB).take i.1))]) (fun i => acc.length - i.1) (⟨0, Nat.zero_le _⟩) (Le.weak [] (by repeat' first | constructor | omega | (simp; done) | (simp; omega)) (by repeat' first | constructor | omega | (simp; done) | (simp; omega)) (by simp) (by intro i hi; first | omega | (rcases i with _ | _ | _ | i <;> first | (intro _; rfl) | omega))) ?_
    rintro ⟨i, hi⟩
    simp only at hi ⊢
    repeat refine go1 (F := F) rfl ?_
    refine goIf rfl (fun hr => ?_) (fun hr => ?_) <;> (try simp at hr) <;> (repeat refine go1 (F := F) rfl ?_)
    · obtain ⟨b, hx⟩ := at_of (xs := acc) (i := i) (by omega)
      refine goAt (F := F) rfl rfl rfl rfl rfl rfl (by first | exact Int.natCast_nonneg _ | omega) (map_at hx) rfl rfl (Nat.zero_lt_succ _) ?_
      repeat refine go1 (F := F) rfl ?_
      refine goBuild (F := F) true (e := 1) rfl rfl rfl rfl rfl rfl (Nat.zero_lt_succ _) rfl rfl rfl rfl rfl rfl (Nat.le_of_ble_eq_true rfl) rfl ?_
      repeat refine go1 (F := F) rfl ?_
      refine goApp (F := F) rfl rfl rfl rfl rfl rfl rfl rfl (Nat.zero_lt_succ _) rfl rfl (by first | rfl | (simp; done) | (simp; omega) | omega) (.rowFlat rfl rfl (by intro cs hcs d hd; simp at hcs; subst hcs; simp at hd; subst hd; rfl)) rfl (by first | omega | (simp; omega) | simp) (Nat.zero_lt_succ _) rfl ?_
      repeat refine go1 (F := F) rfl ?_
      rw [wrap64 (n := (i : Int) + 1) (by omega) (by omega)]
      refine goInv ⟨⟨i + 1, by omega⟩, (by simp; omega), (Le.weak [] (by repeat' first | constructor | omega | exact (take_cons (map_at (map_at hx))).symm | (simp; done) | (simp; omega)) (by repeat' first | constructor | omega | exact (take_cons (map_at (map_at hx))).symm | (simp; done) | (simp; omega)) (by simp) (by intro i hi; first | omega | (rcases i with _ | _ | _ | i <;> first | (intro _; rfl) | omega)))⟩
    · have : i = acc.length := by omega
      subst this
      refine goFin (F := F) rfl (by simp [expOkT, expOkA, expOks, expOkAs, expOk, hpL, Mach.own]; rw [List.take_of_length_le (by simp)]) (by simp [expET, expEA, expEs, expEAs, expE1, Mach.own]) (by simp [expGT, expGA, expGs, expGAs, expG1, Mach.own])
end Go.Proofs.Ma
