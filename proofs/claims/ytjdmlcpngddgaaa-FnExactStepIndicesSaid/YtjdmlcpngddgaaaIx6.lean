/- Part of a proof over the seat Ytjdmlcpngddgaaa: what the text lends is said at its theorems. -/
import Derived.Test.YtjdmlcpngddgaaaIx5
import Derived.Test.YtjdmlcpngddgaaaAlNest
set_option linter.unusedVariables false
set_option linter.unusedSimpArgs false
set_option maxRecDepth 20000
namespace Go.Proofs.Ix
open Go Go.Al Go.Proofs
open Go.Proofs.Tst (Idx Idx.rec' enc encL encL_len encL_at encL_map F rightI rightL rightL_at sizeI sizeL sizeI_pos sizeL_nn sizeL_mem isI c_specIsIndexTerm c_IsIndexTerm ab_idx mixed a13 a15 a17 szI WI szI_bnd szI_small same_refl)

mutual
def addI : Idx → Int → Int → Idx
  | .mk op n ks, d, deep => .mk op (if op = 1 ∧ deep ≤ n then n + d else n) (addL ks d (if op = 3 then deep + 1 else deep))
def addL : List Idx → Int → Int → List Idx
  | [], _, _ => []
  | x :: xs, d, deep => addI x d deep :: addL xs d deep
end
theorem addL_map (xs : List Idx) (d deep : Int) : addL xs d deep = xs.map fun x => addI x d deep := by
  induction xs with
  | nil => rfl
  | cons x xs ih => simp [addL, ih]
def Idx.own : Idx → AV
  | .mk op n ks => .agg [.int .i64 op, .int .i64 n, .sl (.inn 3) (encL ks)]
theorem encL_take (xs : List Idx) (i : Nat) {x : Idx} (h : xs[i]? = some x) : (encL xs).take i ++ [enc x] = (encL xs).take (i + 1) := (take_cons (encL_at h)).symm

theorem c_l8Add : ∀ (x : Idx) (d deep : Int), rightI x = true → 0 ≤ d → d ≤ 1000000 → 0 ≤ deep → deep + sizeI x ≤ 1000000 →
    ACall Try.prog 0 100 [.agg ((enc x).map (MD .st)), .int .i64 d, .int .i64 deep] (hpL []) (Idx.own (addI x d deep)) (hpL []) := by
  refine Idx.rec' fun op n ks ih d deep hr h0 h1 h2 h3 => ?_
  have hk := right_kids hr
  have hn : 0 ≤ n ∧ n ≤ 999 ∧ ks.length ≤ 2 := by
    rcases right_cases hr with ⟨_, a, b, rfl⟩ | ⟨_, a, b, _⟩ | ⟨_, a, b, _⟩
    · exact ⟨a, b, by simp⟩
    · omega
    · omega
  rw [sizeI] at h3
  have hsn := sizeL_nn ks
  rw [addI, Idx.own]
  generalize hn' : (if op = 1 ∧ deep ≤ n then n + d else n) = n'
  generalize hdp : (if op = 3 then deep + 1 else deep) = dp
  have hdb : 0 ≤ dp ∧ dp ≤ deep + 1 := by rw [← hdp]; split <;> omega
  refine acall_go (fn := Try.f100) (by kernel_rfl) (by kernel_rfl) (by rfl) (Nat.le_of_ble_eq_true rfl) ?_
  show AGo _ _ _ _ _ ⟨52, _, _⟩
  repeat refine go1 (F := F) rfl ?_
  refine goCut (X := Unit) 2 (fun _ => [(1, .int .i64 d), (2, .int .i64 deep), (3, .ptr 0 0), (6, .ptr 1 0), (7, .ptr 2 0)]) (fun _ => [some (.box [.int .i64 op, .int .i64 n, .sl .st (encL ks)]), some (.box [.int .i64 0, .int .i64 0, .nil]), some (.box [.int .i64 op, .int .i64 n', .nil])]) rfl ?_ ?_
  · refine goGuard rfl rfl rfl (fun g1 => ?_) (fun g1 => ?_) <;> (try simp at g1) <;> (repeat refine go1 (F := F) rfl ?_)
    · refine goIf rfl (fun g2 => ?_) (fun g2 => ?_) <;> (try simp at g2) <;> (repeat refine go1 (F := F) rfl ?_)
      · rw [wrap64 (n := n + d) (by omega) (by omega)]
        rw [if_pos ⟨g1, g2⟩] at hn'
        subst hn'
        refine goInv ⟨(), (Le.weak [] (by repeat' first | constructor | omega | (simp; done) | (simp; omega)) (by repeat' first | constructor | omega | (simp; done) | (simp; omega)) (by simp) (by intro i hi; first | omega | (rcases i with _ | _ | _ | i <;> first | (intro _; rfl) | omega)))⟩
      · rw [if_neg (by omega)] at hn'
        subst hn'
        refine goInv ⟨(), (Le.weak [] (by repeat' first | constructor | omega | (simp; done) | (simp; omega)) (by repeat' first | constructor | omega | (simp; done) | (simp; omega)) (by simp) (by intro i hi; first | omega | (rcases i with _ | _ | _ | i <;> first | (intro _; rfl) | omega)))⟩
    · rw [if_neg (by omega)] at hn'
      subst hn'
      refine goInv ⟨(), (Le.weak [] (by repeat' first | constructor | omega | (simp; done) | (simp; omega)) (by repeat' first | constructor | omega | (simp; done) | (simp; omega)) (by simp) (by intro i hi; first | omega | (rcases i with _ | _ | _ | i <;> first | (intro _; rfl) | omega)))⟩
  · rintro ⟨⟩
    repeat refine go1 (F := F) rfl ?_
    refine goCut (X := Unit) 1 (fun _ => [(1, .int .i64 d), (2, .int .i64 dp), (3, .ptr 0 0), (6, .ptr 1 0), (7, .ptr 2 0)]) (fun _ => [some (.box [.int .i64 op, .int .i64 n, .sl .st (encL ks)]), some (.box [.int .i64 0, .int .i64 0, .nil]), some (.box [.int .i64 op, .int .i64 n', .nil])]) rfl ?_ ?_
    · refine goIf rfl (fun g3 => ?_) (fun g3 => ?_) <;> (try simp at g3) <;> (repeat refine go1 (F := F) rfl ?_)
      · rw [wrap64 (n := deep + 1) (by omega) (by omega)]
        rw [if_pos g3] at hdp
        subst hdp
        refine goInv ⟨(), (Le.weak [] (by repeat' first | constructor | omega | (simp; done) | (simp; omega)) (by repeat' first | constructor | omega | (simp; done) | (simp; omega)) (by simp) (by intro i hi; first | omega | (rcases i with _ | _ | _ | i <;> first | (intro _; rfl) | omega)))⟩
      · rw [if_neg g3] at hdp
        subst hdp
        refine goInv ⟨(), (Le.weak [] (by repeat' first | constructor | omega | (simp; done) | (simp; omega)) (by repeat' first | constructor | omega | (simp; done) | (simp; omega)) (by simp) (by intro i hi; first | omega | (rcases i with _ | _ | _ | i <;> first | (intro _; rfl) | omega)))⟩
    · rintro ⟨⟩
      repeat refine go1 (F := F) rfl ?_
      refine goMatBox 2 2 3 true (Nat.le_of_ble_eq_true rfl) rfl rfl rfl rfl rfl ?_
      rw [encL_len]
      refine goLoop (X := {i : Nat // i ≤ ks.length}) (fun i => [(1, .int .i64 d), (2, .int .i64 dp), (6, .ptr 1 0), (7, .ptr 2 0), (35, .sl .st (encL ks)), (36, .int .i64 ks.length), (37, .int .i64 i.1)]) (fun i => [none, some (.box [.int .i64 0, .int .i64 0, .nil]), some (.box [.int .i64 op, .int .i64 n', .row 3 i.1]), some (.row true i.1 3 ((encL (addL ks d dp)).take i.1))]) (fun i => ks.length - i.1) (⟨0, Nat.zero_le _⟩) (Le.weak [] (by repeat' first | constructor | omega | (simp; done) | (simp; omega)) (by repeat' first | constructor | omega | (simp; done) | (simp; omega)) (by simp) (by intro i hi; first | omega | (rcases i with _ | _ | _ | i <;> first | (intro _; rfl) | omega))) ?_
      rintro ⟨i, hi⟩
      simp only at hi ⊢
      repeat refine go1 (F := F) rfl ?_
      refine goIf rfl (fun hq => ?_) (fun hq => ?_) <;> (try simp at hq) <;> (repeat refine go1 (F := F) rfl ?_)
      · obtain ⟨x, hx⟩ := at_of (xs := ks) (i := i) (by omega)
        have hax : (addL ks d dp)[i]? = some (addI x d dp) := by rw [addL_map]; exact map_at hx
        have hsx := sizeL_mem (List.mem_of_getElem? hx)
        have hc := ih x (List.mem_of_getElem? hx) d dp (hk x (List.mem_of_getElem? hx)) h0 h1 hdb.1 (by omega)
        have hEQ := encL_take (addL ks d dp) i hax
        have htl : ((encL (addL ks d dp)).take i).length = i := by rw [List.length_take, encL_len, addL_map, List.length_map]; omega
        generalize addI x d dp = y at hc hEQ
        obtain ⟨a, b, c⟩ := x
        obtain ⟨a', b', c'⟩ := y
        refine goAt (F := F) rfl rfl rfl rfl rfl rfl (by first | exact Int.natCast_nonneg _ | omega) (encL_at hx) rfl rfl (Nat.zero_lt_succ _) ?_
        repeat refine go1 (F := F) rfl ?_
        refine goDraw ?_
        repeat first | refine dgo1 (F := F) rfl ?_ | refine dgoAlloc (F := F) rfl rfl rfl rfl rfl rfl rfl ?_
        refine dgoCall [] rfl rfl rfl rfl rfl (hc) (by repeat' first | exact ⟨by simp, _, _, _, _, rfl, (by first | rfl | (simp; done)), rfl⟩ | constructor | (simp; done)) (.inl rfl) rfl rfl rfl ?_
        repeat first | refine dgo1 (F := F) rfl ?_ | refine dgoAlloc (F := F) rfl rfl rfl rfl rfl rfl rfl ?_
        refine dgoLoud rfl rfl rfl (build_ok (F := F) true (e := 3) (ys := [[.int .i64 a', .int .i64 b', .sl (encL c')]]) (is := [5]) rfl rfl rfl rfl (Nat.zero_lt_succ _) rfl rfl rfl rfl (by simp [lowss, lows, low, hpL]) rfl (Nat.le_of_ble_eq_true rfl) rfl) ?_
        repeat first | refine dgo1 (F := F) rfl ?_ | refine dgoAlloc (F := F) rfl rfl rfl rfl rfl rfl rfl ?_
        refine dgoLoud rfl rfl rfl (app_ok (F := F) rfl rfl rfl rfl rfl rfl (Nat.zero_lt_succ _) rfl rfl (by first | rfl | (simp; done) | (simp; omega) | omega) (.rowIn rfl rfl rfl) rfl (by first | omega | (simp; omega) | simp) (Nat.zero_lt_succ _) rfl) ?_
        repeat first | refine dgo1 (F := F) rfl ?_ | refine dgoAlloc (F := F) rfl rfl rfl rfl rfl rfl rfl ?_
        refine dgoEndQ (F := F) mixed [(0, 6), (0, 7), (1, 6), (1, 7)] (by kernel_rfl) (by kernel_rfl) (by kernel_rfl) ?_
        repeat refine go1 (F := F) rfl ?_
        rw [wrap64 (n := (i : Int) + 1) (by omega) (by omega)]
        refine goInv ⟨⟨i + 1, by omega⟩, (by simp; omega), (Le.weak [] (by repeat' first | constructor | omega | exact hEQ | (simp; done) | (simp; omega)) (by repeat' first | constructor | omega | exact hEQ | (simp; done) | (simp; omega)) (by simp) (by intro i hi; first | omega | (rcases i with _ | _ | _ | i <;> first | (intro _; rfl) | omega)))⟩
      · have : i = ks.length := by omega
        subst this
        refine goFin (F := F) rfl (by simp [expOkT, expOkA, expOks, expOkAs, expOk, hpL]; rw [List.take_of_length_le (by rw [encL_len, addL_map]; simp)]; exact ⟨rfl, by rw [encL_len, addL_map]; simp⟩) (by simp [expET, expEA, expEs, expEAs, expE1]) (by simp [expGT, expGA, expGs, expGAs, expG1])
theorem c_lifted : ∀ (x : Idx) (d deep : Int), rightI x = true → 0 ≤ d → d ≤ 1000000 → 0 ≤ deep → deep + sizeI x ≤ 1000000 →
    ACall Try.prog 0 124 [.agg ((enc x).map (MD .st)), .int .i64 d, .int .i64 deep] (hpL []) (Idx.own (addI x d deep)) (hpL []) := by
  refine Idx.rec' fun op n ks ih d deep hr h0 h1 h2 h3 => ?_
  have hk := right_kids hr
  have hn : 0 ≤ n ∧ n ≤ 999 ∧ ks.length ≤ 2 := by
    rcases right_cases hr with ⟨_, a, b, rfl⟩ | ⟨_, a, b, _⟩ | ⟨_, a, b, _⟩
    · exact ⟨a, b, by simp⟩
    · omega
    · omega
  rw [sizeI] at h3
  have hsn := sizeL_nn ks
  rw [addI, Idx.own]
  generalize hn' : (if op = 1 ∧ deep ≤ n then n + d else n) = n'
  generalize hdp : (if op = 3 then deep + 1 else deep) = dp
  have hdb : 0 ≤ dp ∧ dp ≤ deep + 1 := by rw [← hdp]; split <;> omega
  refine acall_go (fn := Try.f124) (by kernel_rfl) (by kernel_rfl) (by rfl) (Nat.le_of_ble_eq_true rfl) ?_
  show AGo _ _ _ _ _ ⟨52, _, _⟩
  repeat refine go1 (F := F) rfl ?_
  refine goCut (X := Unit) 2 (fun _ => [(1, .int .i64 d), (2, .int .i64 deep), (3, .ptr 0 0), (6, .ptr 1 0), (7, .ptr 2 0)]) (fun _ => [some (.box [.int .i64 op, .int .i64 n, .sl .st (encL ks)]), some (.box [.int .i64 0, .int .i64 0, .nil]), some (.box [.int .i64 op, .int .i64 n', .nil])]) rfl ?_ ?_
  · refine goGuard rfl rfl rfl (fun g1 => ?_) (fun g1 => ?_) <;> (try simp at g1) <;> (repeat refine go1 (F := F) rfl ?_)
    · refine goIf rfl (fun g2 => ?_) (fun g2 => ?_) <;> (try simp at g2) <;> (repeat refine go1 (F := F) rfl ?_)
      · rw [wrap64 (n := n + d) (by omega) (by omega)]
        rw [if_pos ⟨g1, g2⟩] at hn'
        subst hn'
        refine goInv ⟨(), (Le.weak [] (by repeat' first | constructor | omega | (simp; done) | (simp; omega)) (by repeat' first | constructor | omega | (simp; done) | (simp; omega)) (by simp) (by intro i hi; first | omega | (rcases i with _ | _ | _ | i <;> first | (intro _; rfl) | omega)))⟩
      · rw [if_neg (by omega)] at hn'
        subst hn'
        refine goInv ⟨(), (Le.weak [] (by repeat' first | constructor | omega | (simp; done) | (simp; omega)) (by repeat' first | constructor | omega | (simp; done) | (simp; omega)) (by simp) (by intro i hi; first | omega | (rcases i with _ | _ | _ | i <;> first | (intro _; rfl) | omega)))⟩
    · rw [if_neg (by omega)] at hn'
      subst hn'
      refine goInv ⟨(), (Le.weak [] (by repeat' first | constructor | omega | (simp; done) | (simp; omega)) (by repeat' first | constructor | omega | (simp; done) | (simp; omega)) (by simp) (by intro i hi; first | omega | (rcases i with _ | _ | _ | i <;> first | (intro _; rfl) | omega)))⟩
  · rintro ⟨⟩
    repeat refine go1 (F := F) rfl ?_
    refine goCut (X := Unit) 1 (fun _ => [(1, .int .i64 d), (2, .int .i64 dp), (3, .ptr 0 0), (6, .ptr 1 0), (7, .ptr 2 0)]) (fun _ => [some (.box [.int .i64 op, .int .i64 n, .sl .st (encL ks)]), some (.box [.int .i64 0, .int .i64 0, .nil]), some (.box [.int .i64 op, .int .i64 n', .nil])]) rfl ?_ ?_
    · refine goIf rfl (fun g3 => ?_) (fun g3 => ?_) <;> (try simp at g3) <;> (repeat refine go1 (F := F) rfl ?_)
      · rw [wrap64 (n := deep + 1) (by omega) (by omega)]
        rw [if_pos g3] at hdp
        subst hdp
        refine goInv ⟨(), (Le.weak [] (by repeat' first | constructor | omega | (simp; done) | (simp; omega)) (by repeat' first | constructor | omega | (simp; done) | (simp; omega)) (by simp) (by intro i hi; first | omega | (rcases i with _ | _ | _ | i <;> first | (intro _; rfl) | omega)))⟩
      · rw [if_neg g3] at hdp
        subst hdp
        refine goInv ⟨(), (Le.weak [] (by repeat' first | constructor | omega | (simp; done) | (simp; omega)) (by repeat' first | constructor | omega | (simp; done) | (simp; omega)) (by simp) (by intro i hi; first | omega | (rcases i with _ | _ | _ | i <;> first | (intro _; rfl) | omega)))⟩
    · rintro ⟨⟩
      repeat refine go1 (F := F) rfl ?_
      refine goMatBox 2 2 3 true (Nat.le_of_ble_eq_true rfl) rfl rfl rfl rfl rfl ?_
      rw [encL_len]
      refine goLoop (X := {i : Nat // i ≤ ks.length}) (fun i => [(1, .int .i64 d), (2, .int .i64 dp), (6, .ptr 1 0), (7, .ptr 2 0), (35, .sl .st (encL ks)), (36, .int .i64 ks.length), (37, .int .i64 i.1)]) (fun i => [none, some (.box [.int .i64 0, .int .i64 0, .nil]), some (.box [.int .i64 op, .int .i64 n', .row 3 i.1]), some (.row true i.1 3 ((encL (addL ks d dp)).take i.1))]) (fun i => ks.length - i.1) (⟨0, Nat.zero_le _⟩) (Le.weak [] (by repeat' first | constructor | omega | (simp; done) | (simp; omega)) (by repeat' first | constructor | omega | (simp; done) | (simp; omega)) (by simp) (by intro i hi; first | omega | (rcases i with _ | _ | _ | i <;> first | (intro _; rfl) | omega))) ?_
      rintro ⟨i, hi⟩
      simp only at hi ⊢
      repeat refine go1 (F := F) rfl ?_
      refine goIf rfl (fun hq => ?_) (fun hq => ?_) <;> (try simp at hq) <;> (repeat refine go1 (F := F) rfl ?_)
      · obtain ⟨x, hx⟩ := at_of (xs := ks) (i := i) (by omega)
        have hax : (addL ks d dp)[i]? = some (addI x d dp) := by rw [addL_map]; exact map_at hx
        have hsx := sizeL_mem (List.mem_of_getElem? hx)
        have hc := ih x (List.mem_of_getElem? hx) d dp (hk x (List.mem_of_getElem? hx)) h0 h1 hdb.1 (by omega)
        have hEQ := encL_take (addL ks d dp) i hax
        have htl : ((encL (addL ks d dp)).take i).length = i := by rw [List.length_take, encL_len, addL_map, List.length_map]; omega
        generalize addI x d dp = y at hc hEQ
        obtain ⟨a, b, c⟩ := x
        obtain ⟨a', b', c'⟩ := y
        refine goAt (F := F) rfl rfl rfl rfl rfl rfl (by first | exact Int.natCast_nonneg _ | omega) (encL_at hx) rfl rfl (Nat.zero_lt_succ _) ?_
        repeat refine go1 (F := F) rfl ?_
        refine goDraw ?_
        repeat first | refine dgo1 (F := F) rfl ?_ | refine dgoAlloc (F := F) rfl rfl rfl rfl rfl rfl rfl ?_
        refine dgoCall [] rfl rfl rfl rfl rfl (hc) (by repeat' first | exact ⟨by simp, _, _, _, _, rfl, (by first | rfl | (simp; done)), rfl⟩ | constructor | (simp; done)) (.inl rfl) rfl rfl rfl ?_
        repeat first | refine dgo1 (F := F) rfl ?_ | refine dgoAlloc (F := F) rfl rfl rfl rfl rfl rfl rfl ?_
        refine dgoLoud rfl rfl rfl (build_ok (F := F) true (e := 3) (ys := [[.int .i64 a', .int .i64 b', .sl (encL c')]]) (is := [5]) rfl rfl rfl rfl (Nat.zero_lt_succ _) rfl rfl rfl rfl (by simp [lowss, lows, low, hpL]) rfl (Nat.le_of_ble_eq_true rfl) rfl) ?_
        repeat first | refine dgo1 (F := F) rfl ?_ | refine dgoAlloc (F := F) rfl rfl rfl rfl rfl rfl rfl ?_
        refine dgoLoud rfl rfl rfl (app_ok (F := F) rfl rfl rfl rfl rfl rfl (Nat.zero_lt_succ _) rfl rfl (by first | rfl | (simp; done) | (simp; omega) | omega) (.rowIn rfl rfl rfl) rfl (by first | omega | (simp; omega) | simp) (Nat.zero_lt_succ _) rfl) ?_
        repeat first | refine dgo1 (F := F) rfl ?_ | refine dgoAlloc (F := F) rfl rfl rfl rfl rfl rfl rfl ?_
        refine dgoEndQ (F := F) mixed [(0, 6), (0, 7), (1, 6), (1, 7)] (by kernel_rfl) (by kernel_rfl) (by kernel_rfl) ?_
        repeat refine go1 (F := F) rfl ?_
        rw [wrap64 (n := (i : Int) + 1) (by omega) (by omega)]
        refine goInv ⟨⟨i + 1, by omega⟩, (by simp; omega), (Le.weak [] (by repeat' first | constructor | omega | exact hEQ | (simp; done) | (simp; omega)) (by repeat' first | constructor | omega | exact hEQ | (simp; done) | (simp; omega)) (by simp) (by intro i hi; first | omega | (rcases i with _ | _ | _ | i <;> first | (intro _; rfl) | omega)))⟩
      · have : i = ks.length := by omega
        subst this
        refine goFin (F := F) rfl (by simp [expOkT, expOkA, expOks, expOkAs, expOk, hpL]; rw [List.take_of_length_le (by rw [encL_len, addL_map]; simp)]; exact ⟨rfl, by rw [encL_len, addL_map]; simp⟩) (by simp [expET, expEA, expEs, expEAs, expE1]) (by simp [expGT, expGA, expGs, expGAs, expG1])

theorem c_cloneIndex : ∀ x : Idx, rightI x = true → ACall Try.prog 0 102 [.agg ((enc x).map (MD .st))] (hpL []) (Idx.own x) (hpL []) := by
  refine Idx.rec' fun op n ks ih hr => ?_
  have hk := right_kids hr
  have hn : ks.length ≤ 2 := by
    rcases right_cases hr with ⟨_, a, b, rfl⟩ | ⟨_, a, b, _⟩ | ⟨_, a, b, _⟩
    · simp
    · omega
    · omega
  rw [Idx.own]
  refine acall_go (fn := Try.f102) (by kernel_rfl) (by kernel_rfl) (by rfl) (Nat.le_of_ble_eq_true rfl) ?_
  show AGo _ _ _ _ _ ⟨27, _, _⟩
  repeat refine go1 (F := F) rfl ?_
  refine goMatBox 2 2 3 true (Nat.le_of_ble_eq_true rfl) rfl rfl rfl rfl rfl ?_
  rw [encL_len]
  refine goLoop (X := {i : Nat // i ≤ ks.length}) (fun i => [(2, .ptr 1 0), (3, .ptr 2 0), (12, .sl .st (encL ks)), (13, .int .i64 ks.length), (14, .int .i64 i.1)]) (fun i => [none, some (.box [.int .i64 0, .int .i64 0, .nil]), some (.box [.int .i64 op, .int .i64 n, .row 3 i.1]), some (.row true i.1 3 ((encL ks).take i.1))]) (fun i => ks.length - i.1) (⟨0, Nat.zero_le _⟩) (Le.weak [] (by repeat' first | constructor | omega | (simp; done) | (simp; omega)) (by repeat' first | constructor | omega | (simp; done) | (simp; omega)) (by simp) (by intro i hi; first | omega | (rcases i with _ | _ | _ | i <;> first | (intro _; rfl) | omega))) ?_
  rintro ⟨i, hi⟩
  simp only at hi ⊢
  repeat refine go1 (F := F) rfl ?_
  refine goIf rfl (fun hq => ?_) (fun hq => ?_) <;> (try simp at hq) <;> (repeat refine go1 (F := F) rfl ?_)
  · obtain ⟨⟨a, b, c⟩, hx⟩ := at_of (xs := ks) (i := i) (by omega)
    have hc := ih _ (List.mem_of_getElem? hx) (hk _ (List.mem_of_getElem? hx))
    have hEQ := encL_take ks i hx
    have htl : ((encL ks).take i).length = i := by rw [List.length_take, encL_len]; omega
    refine goAt (F := F) rfl rfl rfl rfl rfl rfl (by first | exact Int.natCast_nonneg _ | omega) (encL_at hx) rfl rfl (Nat.zero_lt_succ _) ?_
    repeat refine go1 (F := F) rfl ?_
    refine goDraw ?_
    repeat first | refine dgo1 (F := F) rfl ?_ | refine dgoAlloc (F := F) rfl rfl rfl rfl rfl rfl rfl ?_
    refine dgoCall [] rfl rfl rfl rfl rfl (hc) (by repeat' first | exact ⟨by simp, _, _, _, _, rfl, (by first | rfl | (simp; done)), rfl⟩ | constructor | (simp; done)) (.inl rfl) rfl rfl rfl ?_
    repeat first | refine dgo1 (F := F) rfl ?_ | refine dgoAlloc (F := F) rfl rfl rfl rfl rfl rfl rfl ?_
    refine dgoLoud rfl rfl rfl (build_ok (F := F) true (e := 3) (ys := [[.int .i64 a, .int .i64 b, .sl (encL c)]]) (is := [5]) rfl rfl rfl rfl (Nat.zero_lt_succ _) rfl rfl rfl rfl (by simp [lowss, lows, low, hpL]) rfl (Nat.le_of_ble_eq_true rfl) rfl) ?_
    repeat first | refine dgo1 (F := F) rfl ?_ | refine dgoAlloc (F := F) rfl rfl rfl rfl rfl rfl rfl ?_
    refine dgoLoud rfl rfl rfl (app_ok (F := F) rfl rfl rfl rfl rfl rfl (Nat.zero_lt_succ _) rfl rfl (by first | rfl | (simp; done) | (simp; omega) | omega) (.rowIn rfl rfl rfl) rfl (by first | omega | (simp; omega) | simp) (Nat.zero_lt_succ _) rfl) ?_
    repeat first | refine dgo1 (F := F) rfl ?_ | refine dgoAlloc (F := F) rfl rfl rfl rfl rfl rfl rfl ?_
    refine dgoEndQ (F := F) mixed [(0, 4), (0, 5), (1, 4), (1, 5)] (by kernel_rfl) (by kernel_rfl) (by kernel_rfl) ?_
    repeat refine go1 (F := F) rfl ?_
    rw [wrap64 (n := (i : Int) + 1) (by omega) (by omega)]
    refine goInv ⟨⟨i + 1, by omega⟩, (by simp; omega), (Le.weak [] (by repeat' first | constructor | omega | exact hEQ | (simp; done) | (simp; omega)) (by repeat' first | constructor | omega | exact hEQ | (simp; done) | (simp; omega)) (by simp) (by intro i hi; first | omega | (rcases i with _ | _ | _ | i <;> first | (intro _; rfl) | omega)))⟩
  · have : i = ks.length := by omega
    subst this
    refine goFin (F := F) rfl (by simp [expOkT, expOkA, expOks, expOkAs, expOk, hpL]; rw [List.take_of_length_le (by rw [encL_len]; simp)]; exact ⟨rfl, by rw [encL_len]⟩) (by simp [expET, expEA, expEs, expEAs, expE1]) (by simp [expGT, expGA, expGs, expGAs, expG1])

mutual
def fillI : Idx → Idx → Int → Idx
  | .mk op n ks, u, d => if op = 1 ∧ n = d then addI u d 0 else .mk op (if op = 1 ∧ d < n then n - 1 else n) (fillL ks u (if op = 3 then d + 1 else d))
def fillL : List Idx → Idx → Int → List Idx
  | [], _, _ => []
  | x :: xs, u, d => fillI x u d :: fillL xs u d
end
theorem fillL_map (xs : List Idx) (u : Idx) (d : Int) : fillL xs u d = xs.map fun x => fillI x u d := by
  induction xs with
  | nil => rfl
  | cons x xs ih => simp [fillL, ih]

theorem c_l8Fill (u : Idx) (hu : rightI u = true) (hus : sizeI u ≤ 1000000) : ∀ (x : Idx) (d : Int), rightI x = true → 0 ≤ d → d + sizeI x ≤ 1000000 →
    ACall Try.prog 0 99 [.agg ((enc x).map (MD .st)), .agg ((enc u).map (MD .st)), .int .i64 d] (hpL []) (Idx.own (fillI x u d)) (hpL []) := by
  refine Idx.rec' fun op n ks ih d hr h2 h3 => ?_
  have hk := right_kids hr
  have hn : 0 ≤ n ∧ n ≤ 999 ∧ ks.length ≤ 2 := by
    rcases right_cases hr with ⟨_, a, b, rfl⟩ | ⟨_, a, b, _⟩ | ⟨_, a, b, _⟩
    · exact ⟨a, b, by simp⟩
    · omega
    · omega
  rw [sizeI] at h3
  have hsn := sizeL_nn ks
  have hadd := c_l8Add u d 0 hu h2 (by omega) (by omega) (by omega)
  generalize hres : fillI (.mk op n ks) u d = res
  rw [fillI] at hres
  obtain ⟨ua, ub, uc⟩ := u
  refine acall_go (fn := Try.f99) (by kernel_rfl) (by kernel_rfl) (by rfl) (Nat.le_of_ble_eq_true rfl) ?_
  show AGo _ _ _ _ _ ⟨63, _, _⟩
  repeat refine go1 (F := F) rfl ?_
  refine goCut (X := {v : Unit // ¬ (op = 1 ∧ n = d)}) 2 (fun _ => [(2, .int .i64 d), (3, .ptr 0 0), (4, .ptr 1 0), (6, .ptr 2 0)]) (fun _ => [some (.box [.int .i64 op, .int .i64 n, .sl .st (encL ks)]), some (.box [.int .i64 ua, .int .i64 ub, .sl .st (encL uc)]), some (.box [.int .i64 0, .int .i64 0, .nil])]) rfl ?_ ?_
  · refine goGuard rfl rfl rfl (fun g1 => ?_) (fun g1 => ?_) <;> (try simp at g1) <;> (repeat refine go1 (F := F) rfl ?_)
    · refine goIf rfl (fun g2 => ?_) (fun g2 => ?_) <;> (try simp at g2) <;> (repeat refine go1 (F := F) rfl ?_)
      · rw [if_pos ⟨g1, g2⟩] at hres
        rw [hres] at hadd
        obtain ⟨ra, rb, rc⟩ := res
        refine goCall [] rfl rfl rfl rfl (hadd) (by repeat' first | exact ⟨by simp, _, _, _, _, rfl, (by first | rfl | (simp; done)), rfl⟩ | constructor | (simp; done)) (.inl rfl) rfl rfl ?_
        repeat refine go1 (F := F) rfl ?_
        refine goFin (F := F) rfl ?_ ?_ ?_
        · simp [expOkT, expOkA, expOks, expOkAs, expOk, hpL, Idx.own]
        · simp [expET, expEA, expEs, expEAs, expE1, Idx.own]
        · simp [expGT, expGA, expGs, expGAs, expG1, Idx.own]
      · refine goInv ⟨⟨(), fun h => g2 h.2⟩, (Le.weak [] (by repeat' first | constructor | omega | (simp; done) | (simp; omega)) (by repeat' first | constructor | omega | (simp; done) | (simp; omega)) (by simp) (by intro i hi; first | omega | (rcases i with _ | _ | _ | i <;> first | (intro _; rfl) | omega)))⟩
    · refine goInv ⟨⟨(), fun h => g1 h.1⟩, (Le.weak [] (by repeat' first | constructor | omega | (simp; done) | (simp; omega)) (by repeat' first | constructor | omega | (simp; done) | (simp; omega)) (by simp) (by intro i hi; first | omega | (rcases i with _ | _ | _ | i <;> first | (intro _; rfl) | omega)))⟩
  · rintro ⟨⟨⟩, hno⟩
    rw [if_neg hno] at hres
    subst hres
    rw [Idx.own]
    generalize hn' : (if op = 1 ∧ d < n then n - 1 else n) = n'
    generalize hdp : (if op = 3 then d + 1 else d) = dp
    have hdb : 0 ≤ dp ∧ dp ≤ d + 1 := by rw [← hdp]; split <;> omega
    repeat refine go1 (F := F) rfl ?_
    refine goCut (X := Unit) 2 (fun _ => [(2, .int .i64 d), (3, .ptr 0 0), (4, .ptr 1 0), (6, .ptr 2 0), (7, .ptr 3 0)]) (fun _ => [some (.box [.int .i64 op, .int .i64 n, .sl .st (encL ks)]), some (.box [.int .i64 ua, .int .i64 ub, .sl .st (encL uc)]), some (.box [.int .i64 0, .int .i64 0, .nil]), some (.box [.int .i64 op, .int .i64 n', .nil])]) rfl ?_ ?_
    · refine goGuard rfl rfl rfl (fun g1 => ?_) (fun g1 => ?_) <;> (try simp at g1) <;> (repeat refine go1 (F := F) rfl ?_)
      · refine goIf rfl (fun g2 => ?_) (fun g2 => ?_) <;> (try simp at g2) <;> (repeat refine go1 (F := F) rfl ?_)
        · rw [wrap64 (n := n - 1) (by omega) (by omega)]
          rw [if_pos ⟨g1, g2⟩] at hn'
          subst hn'
          refine goInv ⟨(), (Le.weak [] (by repeat' first | constructor | omega | (simp; done) | (simp; omega)) (by repeat' first | constructor | omega | (simp; done) | (simp; omega)) (by simp) (by intro i hi; first | omega | (rcases i with _ | _ | _ | i <;> first | (intro _; rfl) | omega)))⟩
        · rw [if_neg (by omega)] at hn'
          subst hn'
          refine goInv ⟨(), (Le.weak [] (by repeat' first | constructor | omega | (simp; done) | (simp; omega)) (by repeat' first | constructor | omega | (simp; done) | (simp; omega)) (by simp) (by intro i hi; first | omega | (rcases i with _ | _ | _ | i <;> first | (intro _; rfl) | omega)))⟩
      · rw [if_neg (by omega)] at hn'
        subst hn'
        refine goInv ⟨(), (Le.weak [] (by repeat' first | constructor | omega | (simp; done) | (simp; omega)) (by repeat' first | constructor | omega | (simp; done) | (simp; omega)) (by simp) (by intro i hi; first | omega | (rcases i with _ | _ | _ | i <;> first | (intro _; rfl) | omega)))⟩
    · rintro ⟨⟩
      repeat refine go1 (F := F) rfl ?_
      refine goCut (X := Unit) 1 (fun _ => [(2, .int .i64 dp), (3, .ptr 0 0), (4, .ptr 1 0), (6, .ptr 2 0), (7, .ptr 3 0)]) (fun _ => [some (.box [.int .i64 op, .int .i64 n, .sl .st (encL ks)]), some (.box [.int .i64 ua, .int .i64 ub, .sl .st (encL uc)]), some (.box [.int .i64 0, .int .i64 0, .nil]), some (.box [.int .i64 op, .int .i64 n', .nil])]) rfl ?_ ?_
      · refine goIf rfl (fun g3 => ?_) (fun g3 => ?_) <;> (try simp at g3) <;> (repeat refine go1 (F := F) rfl ?_)
        · rw [wrap64 (n := d + 1) (by omega) (by omega)]
          rw [if_pos g3] at hdp
          subst hdp
          refine goInv ⟨(), (Le.weak [] (by repeat' first | constructor | omega | (simp; done) | (simp; omega)) (by repeat' first | constructor | omega | (simp; done) | (simp; omega)) (by simp) (by intro i hi; first | omega | (rcases i with _ | _ | _ | i <;> first | (intro _; rfl) | omega)))⟩
        · rw [if_neg g3] at hdp
          subst hdp
          refine goInv ⟨(), (Le.weak [] (by repeat' first | constructor | omega | (simp; done) | (simp; omega)) (by repeat' first | constructor | omega | (simp; done) | (simp; omega)) (by simp) (by intro i hi; first | omega | (rcases i with _ | _ | _ | i <;> first | (intro _; rfl) | omega)))⟩
      · rintro ⟨⟩
        repeat refine go1 (F := F) rfl ?_
        refine goMatBox 3 2 3 true (Nat.le_of_ble_eq_true rfl) rfl rfl rfl rfl rfl ?_
        rw [encL_len]
        refine goLoop (X := {i : Nat // i ≤ ks.length}) (fun i => [(2, .int .i64 dp), (4, .ptr 1 0), (6, .ptr 2 0), (7, .ptr 3 0), (46, .sl .st (encL ks)), (47, .int .i64 ks.length), (48, .int .i64 i.1)]) (fun i => [none, some (.box [.int .i64 ua, .int .i64 ub, .sl .st (encL uc)]), some (.box [.int .i64 0, .int .i64 0, .nil]), some (.box [.int .i64 op, .int .i64 n', .row 4 i.1]), some (.row true i.1 3 ((encL (fillL ks (.mk ua ub uc) dp)).take i.1))]) (fun i => ks.length - i.1) (⟨0, Nat.zero_le _⟩) (Le.weak [] (by repeat' first | constructor | omega | (simp; done) | (simp; omega)) (by repeat' first | constructor | omega | (simp; done) | (simp; omega)) (by simp) (by intro i hi; first | omega | (rcases i with _ | _ | _ | i <;> first | (intro _; rfl) | omega))) ?_
        rintro ⟨i, hi⟩
        simp only at hi ⊢
        repeat refine go1 (F := F) rfl ?_
        refine goIf rfl (fun hq => ?_) (fun hq => ?_) <;> (try simp at hq) <;> (repeat refine go1 (F := F) rfl ?_)
        · obtain ⟨x, hx⟩ := at_of (xs := ks) (i := i) (by omega)
          have hax : (fillL ks (.mk ua ub uc) dp)[i]? = some (fillI x (.mk ua ub uc) dp) := by rw [fillL_map]; exact map_at hx
          have hsx := sizeL_mem (List.mem_of_getElem? hx)
          have hc := ih x (List.mem_of_getElem? hx) dp (hk x (List.mem_of_getElem? hx)) hdb.1 (by omega)
          have hEQ := encL_take (fillL ks (.mk ua ub uc) dp) i hax
          have htl : ((encL (fillL ks (.mk ua ub uc) dp)).take i).length = i := by rw [List.length_take, encL_len, fillL_map, List.length_map]; omega
          generalize fillI x (.mk ua ub uc) dp = y at hc hEQ
          obtain ⟨a, b, c⟩ := x
          obtain ⟨a', b', c'⟩ := y
          refine goAt (F := F) rfl rfl rfl rfl rfl rfl (by first | exact Int.natCast_nonneg _ | omega) (encL_at hx) rfl rfl (Nat.zero_lt_succ _) ?_
          repeat refine go1 (F := F) rfl ?_
          refine goDraw ?_
          repeat first | refine dgo1 (F := F) rfl ?_ | refine dgoAlloc (F := F) rfl rfl rfl rfl rfl rfl rfl ?_
          refine dgoCall [] rfl rfl rfl rfl rfl (hc) (by repeat' first | exact ⟨by simp, _, _, _, _, rfl, (by first | rfl | (simp; done)), rfl⟩ | constructor | (simp; done)) (.inl rfl) rfl rfl rfl ?_
          repeat first | refine dgo1 (F := F) rfl ?_ | refine dgoAlloc (F := F) rfl rfl rfl rfl rfl rfl rfl ?_
          refine dgoLoud rfl rfl rfl (build_ok (F := F) true (e := 3) (ys := [[.int .i64 a', .int .i64 b', .sl (encL c')]]) (is := [6]) rfl rfl rfl rfl (Nat.zero_lt_succ _) rfl rfl rfl rfl (by simp [lowss, lows, low, hpL]) rfl (Nat.le_of_ble_eq_true rfl) rfl) ?_
          repeat first | refine dgo1 (F := F) rfl ?_ | refine dgoAlloc (F := F) rfl rfl rfl rfl rfl rfl rfl ?_
          refine dgoLoud rfl rfl rfl (app_ok (F := F) rfl rfl rfl rfl rfl rfl (Nat.zero_lt_succ _) rfl rfl (by first | rfl | (simp; done) | (simp; omega) | omega) (.rowIn rfl rfl rfl) rfl (by first | omega | (simp; omega) | simp) (Nat.zero_lt_succ _) rfl) ?_
          repeat first | refine dgo1 (F := F) rfl ?_ | refine dgoAlloc (F := F) rfl rfl rfl rfl rfl rfl rfl ?_
          refine dgoEndQ (F := F) mixed [(0, 6), (0, 7), (1, 6), (1, 7)] (by kernel_rfl) (by kernel_rfl) (by kernel_rfl) ?_
          repeat refine go1 (F := F) rfl ?_
          rw [wrap64 (n := (i : Int) + 1) (by omega) (by omega)]
          refine goInv ⟨⟨i + 1, by omega⟩, (by simp; omega), (Le.weak [] (by repeat' first | constructor | omega | exact hEQ | (simp; done) | (simp; omega)) (by repeat' first | constructor | omega | exact hEQ | (simp; done) | (simp; omega)) (by simp) (by intro i hi; first | omega | (rcases i with _ | _ | _ | i <;> first | (intro _; rfl) | omega)))⟩
        · have : i = ks.length := by omega
          subst this
          refine goFin (F := F) rfl (by simp [expOkT, expOkA, expOks, expOkAs, expOk, hpL]; rw [List.take_of_length_le (by rw [encL_len, fillL_map]; simp)]; exact ⟨rfl, by rw [encL_len, fillL_map]; simp⟩) (by simp [expET, expEA, expEs, expEAs, expE1]) (by simp [expGT, expGA, expGs, expGAs, expG1])
theorem c_filled (u : Idx) (hu : rightI u = true) (hus : sizeI u ≤ 1000000) : ∀ (x : Idx) (d : Int), rightI x = true → 0 ≤ d → d + sizeI x ≤ 1000000 →
    ACall Try.prog 0 101 [.agg ((enc x).map (MD .st)), .agg ((enc u).map (MD .st)), .int .i64 d] (hpL []) (Idx.own (fillI x u d)) (hpL []) := by
  refine Idx.rec' fun op n ks ih d hr h2 h3 => ?_
  have hk := right_kids hr
  have hn : 0 ≤ n ∧ n ≤ 999 ∧ ks.length ≤ 2 := by
    rcases right_cases hr with ⟨_, a, b, rfl⟩ | ⟨_, a, b, _⟩ | ⟨_, a, b, _⟩
    · exact ⟨a, b, by simp⟩
    · omega
    · omega
  rw [sizeI] at h3
  have hsn := sizeL_nn ks
  have hadd := c_lifted u d 0 hu h2 (by omega) (by omega) (by omega)
  generalize hres : fillI (.mk op n ks) u d = res
  rw [fillI] at hres
  obtain ⟨ua, ub, uc⟩ := u
  have hkeep : op = 1 ∧ n = d ∨ (¬ (op = 1 ∧ n = d) ∧ res = .mk op (if op = 1 ∧ d < n then n - 1 else n) (fillL ks (.mk ua ub uc) (if op = 3 then d + 1 else d))) := by
    by_cases h : op = 1 ∧ n = d
    · exact .inl h
    · right; rw [if_neg h] at hres; exact ⟨h, hres.symm⟩
  generalize hn' : (if op = 1 ∧ d < n then n - 1 else n) = n' at hkeep
  generalize hdp : (if op = 3 then d + 1 else d) = dp at hkeep
  have hdb : 0 ≤ dp ∧ dp ≤ d + 1 := by rw [← hdp]; split <;> omega
  refine acall_go (fn := Try.f101) (by kernel_rfl) (by kernel_rfl) (by rfl) (Nat.le_of_ble_eq_true rfl) ?_
  show AGo _ _ _ _ _ ⟨66, _, _⟩
  repeat refine go1 (F := F) rfl ?_
  refine goCut (X := {v : Unit // res = .mk op n' (fillL ks (.mk ua ub uc) dp)}) 3 (fun _ => [(2, .int .i64 dp), (3, .ptr 0 0), (4, .ptr 1 0), (6, .ptr 2 0), (7, .ptr 3 0)]) (fun _ => [some (.box [.int .i64 op, .int .i64 n, .sl .st (encL ks)]), some (.box [.int .i64 ua, .int .i64 ub, .sl .st (encL uc)]), some (.box [.int .i64 0, .int .i64 0, .nil]), some (.box [.int .i64 op, .int .i64 n', .nil])]) rfl ?_ ?_
  · refine goGuard rfl rfl rfl (fun g1 => ?_) (fun g1 => ?_) <;> (try simp at g1) <;> (repeat refine go1 (F := F) rfl ?_)
    · refine goIf rfl (fun g2 => ?_) (fun g2 => ?_) <;> (try simp at g2) <;> (repeat refine go1 (F := F) rfl ?_)
      · rw [if_pos ⟨g1, g2⟩] at hres
        rw [hres] at hadd
        obtain ⟨ra, rb, rc⟩ := res
        refine goCall [] rfl rfl rfl rfl (hadd) (by repeat' first | exact ⟨by simp, _, _, _, _, rfl, (by first | rfl | (simp; done)), rfl⟩ | constructor | (simp; done)) (.inl rfl) rfl rfl ?_
        repeat refine go1 (F := F) rfl ?_
        refine goFin (F := F) rfl ?_ ?_ ?_
        · simp [expOkT, expOkA, expOks, expOkAs, expOk, hpL, Idx.own]
        · simp [expET, expEA, expEs, expEAs, expE1, Idx.own]
        · simp [expGT, expGA, expGs, expGAs, expG1, Idx.own]
      · have hr2 := (hkeep.resolve_left fun h => g2 h.2).2
        rw [if_neg (by omega)] at hdp
        subst hdp
        refine goGuard rfl rfl rfl (fun g3 => ?_) (fun g3 => ?_) <;> (try simp at g3) <;> (repeat refine go1 (F := F) rfl ?_)
        · refine goIf rfl (fun g4 => ?_) (fun g4 => ?_) <;> (try simp at g4) <;> (repeat refine go1 (F := F) rfl ?_)
          · rw [wrap64 (n := n - 1) (by omega) (by omega)]
            rw [if_pos ⟨g1, g4⟩] at hn'
            subst hn'
            refine goInv ⟨⟨(), hr2⟩, (Le.weak [] (by repeat' first | constructor | omega | (simp; done) | (simp; omega)) (by repeat' first | constructor | omega | (simp; done) | (simp; omega)) (by simp) (by intro i hi; first | omega | (rcases i with _ | _ | _ | i <;> first | (intro _; rfl) | omega)))⟩
          · rw [if_neg (by omega)] at hn'
            subst hn'
            refine goIf rfl (fun g5 => ?_) (fun g5 => ?_) <;> (try simp at g5) <;> (repeat refine go1 (F := F) rfl ?_)
            · omega
            · refine goInv ⟨⟨(), hr2⟩, (Le.weak [] (by repeat' first | constructor | omega | (simp; done) | (simp; omega)) (by repeat' first | constructor | omega | (simp; done) | (simp; omega)) (by simp) (by intro i hi; first | omega | (rcases i with _ | _ | _ | i <;> first | (intro _; rfl) | omega)))⟩
        · omega
    · have hr2 := (hkeep.resolve_left fun h => g1 h.1).2
      rw [if_neg (by omega)] at hn'
      subst hn'
      refine goGuard rfl rfl rfl (fun g3 => ?_) (fun g3 => ?_) <;> (try simp at g3) <;> (repeat refine go1 (F := F) rfl ?_)
      · omega
      · refine goIf rfl (fun g5 => ?_) (fun g5 => ?_) <;> (try simp at g5) <;> (repeat refine go1 (F := F) rfl ?_)
        · rw [wrap64 (n := d + 1) (by omega) (by omega)]
          rw [if_pos g5] at hdp
          subst hdp
          refine goInv ⟨⟨(), hr2⟩, (Le.weak [] (by repeat' first | constructor | omega | (simp; done) | (simp; omega)) (by repeat' first | constructor | omega | (simp; done) | (simp; omega)) (by simp) (by intro i hi; first | omega | (rcases i with _ | _ | _ | i <;> first | (intro _; rfl) | omega)))⟩
        · rw [if_neg g5] at hdp
          subst hdp
          refine goInv ⟨⟨(), hr2⟩, (Le.weak [] (by repeat' first | constructor | omega | (simp; done) | (simp; omega)) (by repeat' first | constructor | omega | (simp; done) | (simp; omega)) (by simp) (by intro i hi; first | omega | (rcases i with _ | _ | _ | i <;> first | (intro _; rfl) | omega)))⟩
  · rintro ⟨⟨⟩, hr2⟩
    subst hr2
    rw [Idx.own]
    repeat refine go1 (F := F) rfl ?_
    refine goMatBox 3 2 3 true (Nat.le_of_ble_eq_true rfl) rfl rfl rfl rfl rfl ?_
    rw [encL_len]
    refine goLoop (X := {i : Nat // i ≤ ks.length}) (fun i => [(2, .int .i64 dp), (4, .ptr 1 0), (6, .ptr 2 0), (7, .ptr 3 0), (49, .sl .st (encL ks)), (50, .int .i64 ks.length), (51, .int .i64 i.1)]) (fun i => [none, some (.box [.int .i64 ua, .int .i64 ub, .sl .st (encL uc)]), some (.box [.int .i64 0, .int .i64 0, .nil]), some (.box [.int .i64 op, .int .i64 n', .row 4 i.1]), some (.row true i.1 3 ((encL (fillL ks (.mk ua ub uc) dp)).take i.1))]) (fun i => ks.length - i.1) (⟨0, Nat.zero_le _⟩) (Le.weak [] (by repeat' first | constructor | omega | (simp; done) | (simp; omega)) (by repeat' first | constructor | omega | (simp; done) | (simp; omega)) (by simp) (by intro i hi; first | omega | (rcases i with _ | _ | _ | i <;> first | (intro _; rfl) | omega))) ?_
    rintro ⟨i, hi⟩
    simp only at hi ⊢
    repeat refine go1 (F := F) rfl ?_
    refine goIf rfl (fun hq => ?_) (fun hq => ?_) <;> (try simp at hq) <;> (repeat refine go1 (F := F) rfl ?_)
    · obtain ⟨x, hx⟩ := at_of (xs := ks) (i := i) (by omega)
      have hax : (fillL ks (.mk ua ub uc) dp)[i]? = some (fillI x (.mk ua ub uc) dp) := by rw [fillL_map]; exact map_at hx
      have hsx := sizeL_mem (List.mem_of_getElem? hx)
      have hc := ih x (List.mem_of_getElem? hx) dp (hk x (List.mem_of_getElem? hx)) hdb.1 (by omega)
      have hEQ := encL_take (fillL ks (.mk ua ub uc) dp) i hax
      have htl : ((encL (fillL ks (.mk ua ub uc) dp)).take i).length = i := by rw [List.length_take, encL_len, fillL_map, List.length_map]; omega
      generalize fillI x (.mk ua ub uc) dp = y at hc hEQ
      obtain ⟨a, b, c⟩ := x
      obtain ⟨a', b', c'⟩ := y
      refine goAt (F := F) rfl rfl rfl rfl rfl rfl (by first | exact Int.natCast_nonneg _ | omega) (encL_at hx) rfl rfl (Nat.zero_lt_succ _) ?_
      repeat refine go1 (F := F) rfl ?_
      refine goDraw ?_
      repeat first | refine dgo1 (F := F) rfl ?_ | refine dgoAlloc (F := F) rfl rfl rfl rfl rfl rfl rfl ?_
      refine dgoCall [] rfl rfl rfl rfl rfl (hc) (by repeat' first | exact ⟨by simp, _, _, _, _, rfl, (by first | rfl | (simp; done)), rfl⟩ | constructor | (simp; done)) (.inl rfl) rfl rfl rfl ?_
      repeat first | refine dgo1 (F := F) rfl ?_ | refine dgoAlloc (F := F) rfl rfl rfl rfl rfl rfl rfl ?_
      refine dgoLoud rfl rfl rfl (build_ok (F := F) true (e := 3) (ys := [[.int .i64 a', .int .i64 b', .sl (encL c')]]) (is := [6]) rfl rfl rfl rfl (Nat.zero_lt_succ _) rfl rfl rfl rfl (by simp [lowss, lows, low, hpL]) rfl (Nat.le_of_ble_eq_true rfl) rfl) ?_
      repeat first | refine dgo1 (F := F) rfl ?_ | refine dgoAlloc (F := F) rfl rfl rfl rfl rfl rfl rfl ?_
      refine dgoLoud rfl rfl rfl (app_ok (F := F) rfl rfl rfl rfl rfl rfl (Nat.zero_lt_succ _) rfl rfl (by first | rfl | (simp; done) | (simp; omega) | omega) (.rowIn rfl rfl rfl) rfl (by first | omega | (simp; omega) | simp) (Nat.zero_lt_succ _) rfl) ?_
      repeat first | refine dgo1 (F := F) rfl ?_ | refine dgoAlloc (F := F) rfl rfl rfl rfl rfl rfl rfl ?_
      refine dgoEndQ (F := F) mixed [(0, 6), (0, 7), (1, 6), (1, 7)] (by kernel_rfl) (by kernel_rfl) (by kernel_rfl) ?_
      repeat refine go1 (F := F) rfl ?_
      rw [wrap64 (n := (i : Int) + 1) (by omega) (by omega)]
      refine goInv ⟨⟨i + 1, by omega⟩, (by simp; omega), (Le.weak [] (by repeat' first | constructor | omega | exact hEQ | (simp; done) | (simp; omega)) (by repeat' first | constructor | omega | exact hEQ | (simp; done) | (simp; omega)) (by simp) (by intro i hi; first | omega | (rcases i with _ | _ | _ | i <;> first | (intro _; rfl) | omega)))⟩
    · have : i = ks.length := by omega
      subst this
      refine goFin (F := F) rfl (by simp [expOkT, expOkA, expOks, expOkAs, expOk, hpL]; rw [List.take_of_length_le (by rw [encL_len, fillL_map]; simp)]; exact ⟨rfl, by rw [encL_len, fillL_map]; simp⟩) (by simp [expET, expEA, expEs, expEAs, expE1]) (by simp [expGT, expGA, expGs, expGAs, expG1])
end Go.Proofs.Ix
