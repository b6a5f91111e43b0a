/- Part of a proof over the seat Ytjdmlcpngddgaaa: what the text lends is said at its theorems. -/
import Derived.Test.YtjdmlcpngddgaaaIx6
set_option linter.unusedVariables false
set_option linter.unusedSimpArgs false
set_option maxRecDepth 20000
namespace Go.Proofs.Ix
open Go Go.Al Go.Proofs
open Go.Proofs.Tst (Idx Idx.rec' enc encL encL_len encL_at encL_map F rightI rightL rightL_at sizeI sizeL sizeI_pos sizeL_nn sizeL_mem isI c_specIsIndexTerm c_IsIndexTerm ab_idx mixed a13 a15 a17 szI WI szI_bnd szI_small same_refl)

mutual
theorem addI_zero : ∀ (x : Idx) (deep : Int), addI x 0 deep = x
  | .mk op n ks, deep => by rw [addI, addL_zero ks]; simp
theorem addL_zero : ∀ (xs : List Idx) (deep : Int), addL xs 0 deep = xs
  | [], _ => rfl
  | x :: xs, deep => by rw [addL, addI_zero x, addL_zero xs]
end
def redex : Idx → Option Idx
  | .mk op _ [.mk op' _ [b], y] => if op = 4 ∧ op' = 3 then some (fillI b y 0) else none
  | _ => none
theorem redex_ne {op n : Int} {ks : List Idx} (h : ¬ op = 4) : redex (.mk op n ks) = none := by
  unfold redex
  split
  · rename_i e; injection e with e1 e2 e3; subst e1; simp [h]
  · rfl
theorem redex_ne3 {op n fo m : Int} {l t : List Idx} (h : ¬ fo = 3) : redex (.mk op n (.mk fo m l :: t)) = none := by
  unfold redex
  split
  · rename_i e; injection e with e1 e2 e3; injection e3 with e4 _; injection e4 with e5 _ _; subst e5; simp [h]
  · rfl
mutual
def redI : Idx → Option Idx
  | .mk op n ks => match redex (.mk op n ks) with
    | some z => some z
    | none => (redL ks).map fun ks' => .mk op n ks'
def redL : List Idx → Option (List Idx)
  | [] => none
  | x :: xs => match redI x with
    | some y => some (y :: xs)
    | none => (redL xs).map fun xs' => x :: xs'
end
theorem redL_set : ∀ {ks : List Idx} {i : Nat} {x y : Idx}, (∀ (j : Nat) (z : Idx), j < i → ks[j]? = some z → redI z = none) → ks[i]? = some x → redI x = some y → redL ks = some (ks.set i y)
  | [], i, x, y, _, hx, _ => by simp at hx
  | k :: ks, 0, x, y, _, hx, hy => by
    simp at hx; subst hx
    rw [redL, hy]; rfl
  | k :: ks, i + 1, x, y, hj, hx, hy => by
    rw [redL, hj 0 k (by omega) rfl, redL_set (i := i) (fun j z h1 h2 => hj (j + 1) z (by omega) (by simpa using h2)) (by simpa using hx) hy]
    rfl
theorem redL_none : ∀ {ks : List Idx}, (∀ (j : Nat) (z : Idx), ks[j]? = some z → redI z = none) → redL ks = none
  | [], _ => by rw [redL]
  | k :: ks, h => by
    rw [redL, h 0 k rfl, redL_none (ks := ks) fun j z hz => h (j + 1) z (by simpa using hz)]; rfl
def z0 : Idx := .mk 0 0 []
def resI (o : Option Idx) : AV := .tup [Idx.own (o.getD z0), .bool o.isSome]
theorem encL_set (ks : List Idx) (i : Nat) (y : Idx) : (encL ks).set i (enc y) = encL (ks.set i y) := by rw [encL_map, encL_map, List.map_set]

theorem c_reduced : ∀ x : Idx, rightI x = true → sizeI x ≤ 1000 → ACall Try.prog 0 74 [.agg ((enc x).map (MD .st))] (hpL []) (resI (redI x)) (hpL []) := by
  refine Idx.rec' fun op n ks ih hr hs => ?_
  have hk := right_kids hr
  have hn : ks.length ≤ 2 := by
    rcases right_cases hr with ⟨_, a, b, rfl⟩ | ⟨_, a, b, _⟩ | ⟨_, a, b, _⟩
    · simp
    · omega
    · omega
  have hs' := hs
  rw [sizeI] at hs'
  have hcl := c_cloneIndex (.mk op n ks) hr
  generalize hres : redI (.mk op n ks) = res
  rw [redI] at hres
  refine acall_go (fn := Try.f74) (by kernel_rfl) (by kernel_rfl) (by rfl) (Nat.le_of_ble_eq_true rfl) ?_
  show AGo _ _ _ _ _ ⟨56, _, _⟩
  repeat refine go1 (F := F) rfl ?_
  refine goCut (X := {v : Unit // redex (.mk op n ks) = none}) 2 (fun _ => [(1, .ptr 0 0), (2, .ptr 1 0), (3, .bool false)]) (fun _ => [some (.box [.int .i64 op, .int .i64 n, .sl .st (encL ks)]), some (.box [.int .i64 0, .int .i64 0, .nil])]) rfl ?_ ?_
  · refine goGuard rfl rfl rfl (fun g1 => ?_) (fun g1 => ?_) <;> (try simp at g1) <;> (repeat refine go1 (F := F) rfl ?_)
    · subst g1
      obtain ⟨f, y, rfl⟩ := right_app hr
      obtain ⟨fo, fn, fk⟩ := f
      obtain ⟨ya, yb, yc⟩ := y
      repeat refine go1 (F := F) rfl ?_
      refine goIf rfl (fun g2 => ?_) (fun g2 => ?_) <;> (try simp at g2) <;> (repeat refine go1 (F := F) rfl ?_)
      · subst g2
        obtain ⟨b, rfl⟩ := right_fun (hk (.mk 3 fn fk) (by simp))
        have hrb := right_kids (hk (.mk 3 fn [b]) (by simp)) b (by simp)
        rw [sizeL, sizeL, sizeI, sizeL, sizeL, sizeL] at hs'
        have p1 := sizeI_pos b
        have p2 := sizeI_pos (.mk ya yb yc)
        have hf := c_filled (.mk ya yb yc) (hk (.mk ya yb yc) (by simp)) (by omega) b 0 hrb (by omega) (by omega)
        have hrd : redex (.mk 4 n [.mk 3 fn [b], .mk ya yb yc]) = some (fillI b (.mk ya yb yc) 0) := by simp [redex]
        rw [hrd] at hres
        simp only at hres
        subst hres
        generalize fillI b (.mk ya yb yc) 0 = z at hf
        obtain ⟨za, zb, zc⟩ := z
        obtain ⟨ba, bb, bc⟩ := b
        refine goDraw ?_
        repeat first | refine dgo1 (F := F) rfl ?_ | refine dgoAlloc (F := F) rfl rfl rfl rfl rfl rfl rfl ?_
        refine dgoCall [] rfl rfl rfl rfl rfl (hf) (by repeat' first | exact ⟨by simp, _, _, _, _, rfl, (by first | rfl | (simp; done)), rfl⟩ | constructor | (simp; done)) (.inl rfl) rfl rfl rfl ?_
        repeat first | refine dgo1 (F := F) rfl ?_ | refine dgoAlloc (F := F) rfl rfl rfl rfl rfl rfl rfl ?_
        refine dgoEndQ (F := F) mixed [] (by kernel_rfl) (by kernel_rfl) (by kernel_rfl) ?_
        repeat refine go1 (F := F) rfl ?_
        refine goFin (F := F) rfl (by simp [expOkT, expOkA, expOks, expOkAs, expOk, hpL, resI, Idx.own]) (by simp [expET, expEA, expEs, expEAs, expE1, resI, Idx.own]) (by simp [expGT, expGA, expGs, expGAs, expG1, resI, Idx.own])
      · refine goInv ⟨⟨(), redex_ne3 g2⟩, (Le.weak [] (by repeat' first | constructor | omega | (simp; done) | (simp; omega)) (by repeat' first | constructor | omega | (simp; done) | (simp; omega)) (by simp) (by intro i hi; first | omega | (rcases i with _ | _ | _ | i <;> first | (intro _; rfl) | omega)))⟩
    · refine goInv ⟨⟨(), redex_ne g1⟩, (Le.weak [] (by repeat' first | constructor | omega | (simp; done) | (simp; omega)) (by repeat' first | constructor | omega | (simp; done) | (simp; omega)) (by simp) (by intro i hi; first | omega | (rcases i with _ | _ | _ | i <;> first | (intro _; rfl) | omega)))⟩
  · rintro ⟨⟨⟩, hno⟩
    rw [hno] at hres
    simp only at hres
    repeat refine go1 (F := F) rfl ?_
    have hel := encL_len ks
    rw [encL_len]
    refine goLoop (X := {i : Nat // i ≤ ks.length ∧ ∀ (j : Nat) (z : Idx), j < i → ks[j]? = some z → redI z = none}) (fun i => [(1, .ptr 0 0), (2, .ptr 1 0), (3, .bool false), (33, .sl .st (encL ks)), (34, .int .i64 ks.length), (35, .int .i64 i.1)]) (fun _ => [some (.box [.int .i64 op, .int .i64 n, .sl .st (encL ks)]), some (.box [.int .i64 0, .int .i64 0, .nil])]) (fun i => ks.length - i.1) (⟨0, Nat.zero_le _, fun j z h => by omega⟩) (Le.weak [] (by repeat' first | constructor | omega | (simp; done) | (simp; omega)) (by repeat' first | constructor | omega | (simp; done) | (simp; omega)) (by simp) (by intro i hi; first | omega | (rcases i with _ | _ | _ | i <;> first | (intro _; rfl) | omega))) ?_
    rintro ⟨i, hi, hall⟩
    simp only at hi hall ⊢
    repeat refine go1 (F := F) rfl ?_
    refine goIf rfl (fun hq => ?_) (fun hq => ?_) <;> (try simp at hq) <;> (repeat refine go1 (F := F) rfl ?_)
    · obtain ⟨x, hx⟩ := at_of (xs := ks) (i := i) (by omega)
      have hc := ih x (List.mem_of_getElem? hx) (hk x (List.mem_of_getElem? hx)) (by have := sizeL_mem (List.mem_of_getElem? hx); omega)
      generalize hrx : redI x = o at hc
      obtain ⟨a, b, c⟩ := x
      refine goAt (F := F) rfl rfl rfl rfl rfl rfl (by first | exact Int.natCast_nonneg _ | omega) (encL_at hx) rfl rfl (Nat.zero_lt_succ _) ?_
      repeat refine go1 (F := F) rfl ?_
      cases o with
      | none =>
        refine goCall [] rfl rfl rfl rfl (hc) (by repeat' first | exact ⟨by simp, _, _, _, _, rfl, (by first | rfl | (simp; done)), rfl⟩ | constructor | (simp; done)) (.inl rfl) rfl rfl ?_
        repeat refine go1 (F := F) rfl ?_
        rw [wrap64 (n := (i : Int) + 1) (by omega) (by omega)]
        have hall2 : ∀ (j : Nat) (z : Idx), j < i + 1 → ks[j]? = some z → redI z = none := fun j z hj hz => by
          rcases Nat.lt_or_ge j i with h | h
          · exact hall j z h hz
          · have : j = i := by omega
            subst this
            rw [hx] at hz
            obtain rfl := Option.some.inj hz
            exact hrx
        refine goInv ⟨⟨i + 1, by omega, hall2⟩, (by simp; omega), (Le.weak [] (by repeat' first | constructor | omega | (simp; done) | (simp; omega)) (by repeat' first | constructor | omega | (simp; done) | (simp; omega)) (by simp) (by intro i hi; first | omega | (rcases i with _ | _ | _ | i <;> first | (intro _; rfl) | omega)))⟩
      | some y =>
        have hset := redL_set hall hx hrx
        rw [hset] at hres
        simp only [Option.map_some] at hres
        subst hres
        obtain ⟨ya, yb, yc⟩ := y
        refine goCall [] rfl rfl rfl rfl (hc) (by repeat' first | exact ⟨by simp, _, _, _, _, rfl, (by first | rfl | (simp; done)), rfl⟩ | constructor | (simp; done)) (.inl rfl) rfl rfl ?_
        repeat refine go1 (F := F) rfl ?_
        refine goCall [] rfl rfl rfl rfl (hcl) (by repeat' first | exact ⟨by simp, _, _, _, _, rfl, (by first | rfl | (simp; done)), rfl⟩ | constructor | (simp; done)) (.inl rfl) rfl rfl ?_
        repeat refine go1 (F := F) rfl ?_
        refine goRowAt (F := F) rfl rfl rfl rfl rfl rfl (rfl) (by omega) (by first | omega | (simp; omega)) rfl rfl ?_
        repeat refine go1 (F := F) rfl ?_
        refine goStoreRow (F := F) rfl rfl rfl rfl rfl (rfl) rfl rfl (ds := [.int .i64 ya, .int .i64 yb, .sl (encL yc)]) (is := [3]) (by simp [lows, low, hpL]) (by simp) (by simp) (el := enc (.mk a b c)) (encL_at hx) (Nat.le_of_ble_eq_true rfl) rfl ?_
        repeat refine go1 (F := F) rfl ?_
        refine goFin (F := F) rfl (by simp [expOkT, expOkA, expOks, expOkAs, expOk, hpL, resI, Idx.own]; exact ⟨encL_set ks i (.mk ya yb yc), by rw [← encL_set]; simp⟩) (by simp [expET, expEA, expEs, expEAs, expE1, resI, Idx.own]) (by simp [expGT, expGA, expGs, expGAs, expG1, resI, Idx.own])
    · have hnone := redL_none (ks := ks) fun j z hz => hall j z (by have := (List.getElem?_eq_some_iff.1 hz).1; omega) hz
      rw [hnone] at hres
      simp only [Option.map_none] at hres
      subst hres
      refine goFin (F := F) rfl (by simp [expOkT, expOkA, expOks, expOkAs, expOk, hpL, resI, Idx.own, z0]; rfl) (by simp [expET, expEA, expEs, expEAs, expE1, resI, Idx.own, z0]) (by simp [expGT, expGA, expGs, expGAs, expG1, resI, Idx.own, z0])
theorem c_l8Indices : ∀ x : Idx, rightI x = true → sizeI x ≤ 1000 → ACall Try.prog 0 73 [.agg ((enc x).map (MD .st))] (hpL []) (resI (redI x)) (hpL []) := by
  refine Idx.rec' fun op n ks ih hr hs => ?_
  have hk := right_kids hr
  have hn : ks.length ≤ 2 := by
    rcases right_cases hr with ⟨_, a, b, rfl⟩ | ⟨_, a, b, _⟩ | ⟨_, a, b, _⟩
    · simp
    · omega
    · omega
  have hs' := hs
  rw [sizeI] at hs'
  have hcl := c_l8Add (.mk op n ks) 0 0 hr (by omega) (by omega) (by omega) (by omega)
  rw [addI_zero] at hcl
  generalize hres : redI (.mk op n ks) = res
  rw [redI] at hres
  refine acall_go (fn := Try.f73) (by kernel_rfl) (by kernel_rfl) (by rfl) (Nat.le_of_ble_eq_true rfl) ?_
  show AGo _ _ _ _ _ ⟨56, _, _⟩
  repeat refine go1 (F := F) rfl ?_
  refine goCut (X := {v : Unit // redex (.mk op n ks) = none}) 2 (fun _ => [(1, .ptr 0 0), (2, .ptr 1 0), (3, .bool false)]) (fun _ => [some (.box [.int .i64 op, .int .i64 n, .sl .st (encL ks)]), some (.box [.int .i64 0, .int .i64 0, .nil])]) rfl ?_ ?_
  · refine goGuard rfl rfl rfl (fun g1 => ?_) (fun g1 => ?_) <;> (try simp at g1) <;> (repeat refine go1 (F := F) rfl ?_)
    · subst g1
      obtain ⟨f, y, rfl⟩ := right_app hr
      obtain ⟨fo, fn, fk⟩ := f
      obtain ⟨ya, yb, yc⟩ := y
      repeat refine go1 (F := F) rfl ?_
      refine goIf rfl (fun g2 => ?_) (fun g2 => ?_) <;> (try simp at g2) <;> (repeat refine go1 (F := F) rfl ?_)
      · subst g2
        obtain ⟨b, rfl⟩ := right_fun (hk (.mk 3 fn fk) (by simp))
        have hrb := right_kids (hk (.mk 3 fn [b]) (by simp)) b (by simp)
        rw [sizeL, sizeL, sizeI, sizeL, sizeL, sizeL] at hs'
        have p1 := sizeI_pos b
        have p2 := sizeI_pos (.mk ya yb yc)
        have hf := c_l8Fill (.mk ya yb yc) (hk (.mk ya yb yc) (by simp)) (by omega) b 0 hrb (by omega) (by omega)
        have hrd : redex (.mk 4 n [.mk 3 fn [b], .mk ya yb yc]) = some (fillI b (.mk ya yb yc) 0) := by simp [redex]
        rw [hrd] at hres
        simp only at hres
        subst hres
        generalize fillI b (.mk ya yb yc) 0 = z at hf
        obtain ⟨za, zb, zc⟩ := z
        obtain ⟨ba, bb, bc⟩ := b
        refine goDraw ?_
        repeat first | refine dgo1 (F := F) rfl ?_ | refine dgoAlloc (F := F) rfl rfl rfl rfl rfl rfl rfl ?_
        refine dgoCall [] rfl rfl rfl rfl rfl (hf) (by repeat' first | exact ⟨by simp, _, _, _, _, rfl, (by first | rfl | (simp; done)), rfl⟩ | constructor | (simp; done)) (.inl rfl) rfl rfl rfl ?_
        repeat first | refine dgo1 (F := F) rfl ?_ | refine dgoAlloc (F := F) rfl rfl rfl rfl rfl rfl rfl ?_
        refine dgoEndQ (F := F) mixed [] (by kernel_rfl) (by kernel_rfl) (by kernel_rfl) ?_
        repeat refine go1 (F := F) rfl ?_
        refine goFin (F := F) rfl (by simp [expOkT, expOkA, expOks, expOkAs, expOk, hpL, resI, Idx.own]) (by simp [expET, expEA, expEs, expEAs, expE1, resI, Idx.own]) (by simp [expGT, expGA, expGs, expGAs, expG1, resI, Idx.own])
      · refine goInv ⟨⟨(), redex_ne3 g2⟩, (Le.weak [] (by repeat' first | constructor | omega | (simp; done) | (simp; omega)) (by repeat' first | constructor | omega | (simp; done) | (simp; omega)) (by simp) (by intro i hi; first | omega | (rcases i with _ | _ | _ | i <;> first | (intro _; rfl) | omega)))⟩
    · refine goInv ⟨⟨(), redex_ne g1⟩, (Le.weak [] (by repeat' first | constructor | omega | (simp; done) | (simp; omega)) (by repeat' first | constructor | omega | (simp; done) | (simp; omega)) (by simp) (by intro i hi; first | omega | (rcases i with _ | _ | _ | i <;> first | (intro _; rfl) | omega)))⟩
  · rintro ⟨⟨⟩, hno⟩
    rw [hno] at hres
    simp only at hres
    repeat refine go1 (F := F) rfl ?_
    have hel := encL_len ks
    rw [encL_len]
    refine goLoop (X := {i : Nat // i ≤ ks.length ∧ ∀ (j : Nat) (z : Idx), j < i → ks[j]? = some z → redI z = none}) (fun i => [(1, .ptr 0 0), (2, .ptr 1 0), (3, .bool false), (33, .sl .st (encL ks)), (34, .int .i64 ks.length), (35, .int .i64 i.1)]) (fun _ => [some (.box [.int .i64 op, .int .i64 n, .sl .st (encL ks)]), some (.box [.int .i64 0, .int .i64 0, .nil])]) (fun i => ks.length - i.1) (⟨0, Nat.zero_le _, fun j z h => by omega⟩) (Le.weak [] (by repeat' first | constructor | omega | (simp; done) | (simp; omega)) (by repeat' first | constructor | omega | (simp; done) | (simp; omega)) (by simp) (by intro i hi; first | omega | (rcases i with _ | _ | _ | i <;> first | (intro _; rfl) | omega))) ?_
    rintro ⟨i, hi, hall⟩
    simp only at hi hall ⊢
    repeat refine go1 (F := F) rfl ?_
    refine goIf rfl (fun hq => ?_) (fun hq => ?_) <;> (try simp at hq) <;> (repeat refine go1 (F := F) rfl ?_)
    · obtain ⟨x, hx⟩ := at_of (xs := ks) (i := i) (by omega)
      have hc := ih x (List.mem_of_getElem? hx) (hk x (List.mem_of_getElem? hx)) (by have := sizeL_mem (List.mem_of_getElem? hx); omega)
      generalize hrx : redI x = o at hc
      obtain ⟨a, b, c⟩ := x
      refine goAt (F := F) rfl rfl rfl rfl rfl rfl (by first | exact Int.natCast_nonneg _ | omega) (encL_at hx) rfl rfl (Nat.zero_lt_succ _) ?_
      repeat refine go1 (F := F) rfl ?_
      cases o with
      | none =>
        refine goCall [] rfl rfl rfl rfl (hc) (by repeat' first | exact ⟨by simp, _, _, _, _, rfl, (by first | rfl | (simp; done)), rfl⟩ | constructor | (simp; done)) (.inl rfl) rfl rfl ?_
        repeat refine go1 (F := F) rfl ?_
        rw [wrap64 (n := (i : Int) + 1) (by omega) (by omega)]
        have hall2 : ∀ (j : Nat) (z : Idx), j < i + 1 → ks[j]? = some z → redI z = none := fun j z hj hz => by
          rcases Nat.lt_or_ge j i with h | h
          · exact hall j z h hz
          · have : j = i := by omega
            subst this
            rw [hx] at hz
            obtain rfl := Option.some.inj hz
            exact hrx
        refine goInv ⟨⟨i + 1, by omega, hall2⟩, (by simp; omega), (Le.weak [] (by repeat' first | constructor | omega | (simp; done) | (simp; omega)) (by repeat' first | constructor | omega | (simp; done) | (simp; omega)) (by simp) (by intro i hi; first | omega | (rcases i with _ | _ | _ | i <;> first | (intro _; rfl) | omega)))⟩
      | some y =>
        have hset := redL_set hall hx hrx
        rw [hset] at hres
        simp only [Option.map_some] at hres
        subst hres
        obtain ⟨ya, yb, yc⟩ := y
        refine goCall [] rfl rfl rfl rfl (hc) (by repeat' first | exact ⟨by simp, _, _, _, _, rfl, (by first | rfl | (simp; done)), rfl⟩ | constructor | (simp; done)) (.inl rfl) rfl rfl ?_
        repeat refine go1 (F := F) rfl ?_
        refine goCall [] rfl rfl rfl rfl (hcl) (by repeat' first | exact ⟨by simp, _, _, _, _, rfl, (by first | rfl | (simp; done)), rfl⟩ | constructor | (simp; done)) (.inl rfl) rfl rfl ?_
        repeat refine go1 (F := F) rfl ?_
        refine goRowAt (F := F) rfl rfl rfl rfl rfl rfl (rfl) (by omega) (by first | omega | (simp; omega)) rfl rfl ?_
        repeat refine go1 (F := F) rfl ?_
        refine goStoreRow (F := F) rfl rfl rfl rfl rfl (rfl) rfl rfl (ds := [.int .i64 ya, .int .i64 yb, .sl (encL yc)]) (is := [3]) (by simp [lows, low, hpL]) (by simp) (by simp) (el := enc (.mk a b c)) (encL_at hx) (Nat.le_of_ble_eq_true rfl) rfl ?_
        repeat refine go1 (F := F) rfl ?_
        refine goFin (F := F) rfl (by simp [expOkT, expOkA, expOks, expOkAs, expOk, hpL, resI, Idx.own]; exact ⟨encL_set ks i (.mk ya yb yc), by rw [← encL_set]; simp⟩) (by simp [expET, expEA, expEs, expEAs, expE1, resI, Idx.own]) (by simp [expGT, expGA, expGs, expGAs, expG1, resI, Idx.own])
    · have hnone := redL_none (ks := ks) fun j z hz => hall j z (by have := (List.getElem?_eq_some_iff.1 hz).1; omega) hz
      rw [hnone] at hres
      simp only [Option.map_none] at hres
      subst hres
      refine goFin (F := F) rfl (by simp [expOkT, expOkA, expOks, expOkAs, expOk, hpL, resI, Idx.own, z0]; rfl) (by simp [expET, expEA, expEs, expEAs, expE1, resI, Idx.own, z0]) (by simp [expGT, expGA, expGs, expGAs, expG1, resI, Idx.own, z0])

def stepI (x : Idx) : Option Idx := if isI x = true then (match redI x with
  | some y => if isI y = true then some y else none
  | none => none) else none
mutual
theorem addI_size : ∀ (x : Idx) (d deep : Int), sizeI (addI x d deep) = sizeI x
  | .mk op n ks, d, deep => by rw [addI, sizeI, sizeI, addL_size ks]
theorem addL_size : ∀ (xs : List Idx) (d deep : Int), sizeL (addL xs d deep) = sizeL xs
  | [], _, _ => rfl
  | x :: xs, d, deep => by rw [addL, sizeL, sizeL, addI_size x, addL_size xs]
end
mutual
theorem fillI_size : ∀ (x u : Idx) (d : Int), sizeI (fillI x u d) ≤ sizeI x * sizeI u
  | .mk op n ks, u, d => by
    have h1 := sizeI_pos u
    have h2 := sizeL_nn ks
    have h3 := Int.mul_nonneg h2 (by omega : 0 ≤ sizeI u)
    rw [fillI]
    split
    · rw [addI_size, sizeI, Int.add_mul, Int.one_mul]; omega
    · rw [sizeI, sizeI, Int.add_mul, Int.one_mul]
      have := fillL_size ks u (if op = 3 then d + 1 else d)
      omega
theorem fillL_size : ∀ (xs : List Idx) (u : Idx) (d : Int), sizeL (fillL xs u d) ≤ sizeL xs * sizeI u
  | [], u, d => by rw [fillL, sizeL]; omega
  | x :: xs, u, d => by
    rw [fillL, sizeL, sizeL, Int.add_mul]
    have := fillI_size x u d
    have := fillL_size xs u d
    omega
end
theorem redex_size {x y : Idx} {N : Int} (hN : sizeI x ≤ N) (h : redex x = some y) : sizeI y ≤ N * N := by
  unfold redex at h
  split at h
  · rename_i op m op' m' b u
    split at h
    · obtain rfl := Option.some.inj h
      rw [sizeI, sizeL, sizeL, sizeI, sizeL, sizeL, sizeL] at hN
      have h1 := sizeI_pos b
      have h2 := sizeI_pos u
      have := fillI_size b u 0
      have := Int.mul_le_mul (show sizeI b ≤ N by omega) (show sizeI u ≤ N by omega) (by omega) (by omega)
      omega
    · simp at h
  · simp at h
mutual
theorem redI_size : ∀ (x y : Idx) (N : Int), 0 ≤ N → sizeI x ≤ N → redI x = some y → sizeI y ≤ sizeI x + N * N
  | .mk op n ks, y, N, h0, hN, h => by
    have hs := sizeI_pos (.mk op n ks)
    rw [redI] at h
    cases hr : redex (.mk op n ks) with
    | some z =>
      rw [hr] at h
      obtain rfl := Option.some.inj h
      have := redex_size hN hr
      omega
    | none =>
      rw [hr] at h
      simp only at h
      cases hl : redL ks with
      | none => rw [hl] at h; simp at h
      | some ks' =>
        rw [hl] at h
        obtain rfl := Option.some.inj h
        rw [sizeI] at hN ⊢
        rw [sizeI]
        have := redL_size ks ks' N h0 (by omega) hl
        omega
theorem redL_size : ∀ (xs ys : List Idx) (N : Int), 0 ≤ N → sizeL xs ≤ N → redL xs = some ys → sizeL ys ≤ sizeL xs + N * N
  | [], ys, N, h0, hN, h => by rw [redL] at h; simp at h
  | x :: xs, ys, N, h0, hN, h => by
    rw [redL] at h
    rw [sizeL] at hN
    have h1 := sizeI_pos x
    have h2 := sizeL_nn xs
    cases hx : redI x with
    | some y =>
      rw [hx] at h
      obtain rfl := Option.some.inj h
      rw [sizeL, sizeL]
      have := redI_size x y N h0 (by omega) hx
      omega
    | none =>
      rw [hx] at h
      simp only at h
      cases hl : redL xs with
      | none => rw [hl] at h; simp at h
      | some xs' =>
        rw [hl] at h
        obtain rfl := Option.some.inj h
        rw [sizeL, sizeL]
        have := redL_size xs xs' N h0 (by omega) hl
        omega
end
theorem c_StepIndices (x : Idx) : ACall Try.prog 0 34 [.agg ((enc x).map (MD .st))] (hpL []) (resI (stepI x)) (hpL []) := by
  generalize hres : stepI x = res
  unfold stepI at hres
  have hr := fun h : isI x = true => c_reduced x (isI_ok h).1 (by have := (isI_ok h).2; omega)
  generalize hrx : redI x = o at hr hres
  obtain ⟨op, n, ks⟩ := x
  refine acall_go (fn := Try.f34) (by kernel_rfl) (by kernel_rfl) (by rfl) (Nat.le_of_ble_eq_true rfl) ?_
  show AGo _ _ _ _ _ ⟨24, _, _⟩
  repeat refine go1 (F := F) rfl ?_
  refine goCall [] rfl rfl rfl rfl (c_IsIndexTerm (.mk op n ks)) (by repeat' first | exact ⟨by simp, _, _, _, _, rfl, (by first | rfl | (simp; done)), rfl⟩ | constructor | (simp; done)) (.inl rfl) rfl rfl ?_
  repeat refine go1 (F := F) rfl ?_
  refine goIf rfl (fun g1 => ?_) (fun g1 => ?_) <;> (try simp at g1) <;> (repeat refine go1 (F := F) rfl ?_)
  · rw [if_neg (by rw [g1]; simp)] at hres
    subst hres
    refine goFin (F := F) rfl (by simp [expOkT, expOkA, expOks, expOkAs, expOk, hpL, resI, Idx.own, z0]; rfl) (by simp [expET, expEA, expEs, expEAs, expE1, resI, Idx.own, z0]) (by simp [expGT, expGA, expGs, expGAs, expG1, resI, Idx.own, z0])
  · rw [if_pos g1] at hres
    have hr := hr g1
    cases o with
    | none =>
      simp only at hres
      subst hres
      refine goCall [] rfl rfl rfl rfl (hr) (by repeat' first | exact ⟨by simp, _, _, _, _, rfl, (by first | rfl | (simp; done)), rfl⟩ | constructor | (simp; done)) (.inl rfl) rfl rfl ?_
      repeat refine go1 (F := F) rfl ?_
      refine goFin (F := F) rfl (by simp [expOkT, expOkA, expOks, expOkAs, expOk, hpL, resI, Idx.own, z0]; rfl) (by simp [expET, expEA, expEs, expEAs, expE1, resI, Idx.own, z0]) (by simp [expGT, expGA, expGs, expGAs, expG1, resI, Idx.own, z0])
    | some y =>
      simp only at hres
      obtain ⟨ya, yb, yc⟩ := y
      refine goCall [] rfl rfl rfl rfl (hr) (by repeat' first | exact ⟨by simp, _, _, _, _, rfl, (by first | rfl | (simp; done)), rfl⟩ | constructor | (simp; done)) (.inl rfl) rfl rfl ?_
      repeat refine go1 (F := F) rfl ?_
      refine goCall [2] rfl rfl rfl rfl (c_IsIndexTerm (.mk ya yb yc)) (by repeat' first | exact ⟨by simp, _, _, _, _, rfl, (by first | rfl | (simp; done)), rfl⟩ | constructor | (simp; done)) (.inr rfl) rfl rfl ?_
      repeat refine go1 (F := F) rfl ?_
      refine goIf rfl (fun g2 => ?_) (fun g2 => ?_) <;> (try simp at g2) <;> (repeat refine go1 (F := F) rfl ?_)
      · rw [if_neg (by rw [g2]; simp)] at hres
        subst hres
        refine goFin (F := F) rfl (by simp [expOkT, expOkA, expOks, expOkAs, expOk, hpL, resI, Idx.own, z0]; rfl) (by simp [expET, expEA, expEs, expEAs, expE1, resI, Idx.own, z0]) (by simp [expGT, expGA, expGs, expGAs, expG1, resI, Idx.own, z0])
      · rw [if_pos g2] at hres
        subst hres
        refine goFin (F := F) rfl ?_ ?_ ?_
        · simp [expOkT, expOkA, expOks, expOkAs, expOk, hpL, resI, Idx.own]
        · simp [expET, expEA, expEs, expEAs, expE1, resI, Idx.own]
        · simp [expGT, expGA, expGs, expGAs, expG1, resI, Idx.own]
theorem c_specStepIndices (x : Idx) (hs : sizeI x ≤ 1000000000) : ACall Try.prog 0 33 [.agg ((enc x).map (MD .st))] (hpL []) (resI (stepI x)) (hpL []) := by
  generalize hres : stepI x = res
  unfold stepI at hres
  have hr := fun h : isI x = true => c_l8Indices x (isI_ok h).1 (by have := (isI_ok h).2; omega)
  generalize hrx : redI x = o at hr hres
  obtain ⟨op, n, ks⟩ := x
  refine acall_go (fn := Try.f33) (by kernel_rfl) (by kernel_rfl) (by rfl) (Nat.le_of_ble_eq_true rfl) ?_
  show AGo _ _ _ _ _ ⟨24, _, _⟩
  repeat refine go1 (F := F) rfl ?_
  refine goCall [] rfl rfl rfl rfl (c_specIsIndexTerm (.mk op n ks) hs) (by repeat' first | exact ⟨by simp, _, _, _, _, rfl, (by first | rfl | (simp; done)), rfl⟩ | constructor | (simp; done)) (.inl rfl) rfl rfl ?_
  repeat refine go1 (F := F) rfl ?_
  refine goIf rfl (fun g1 => ?_) (fun g1 => ?_) <;> (try simp at g1) <;> (repeat refine go1 (F := F) rfl ?_)
  · rw [if_neg (by rw [g1]; simp)] at hres
    subst hres
    refine goFin (F := F) rfl (by simp [expOkT, expOkA, expOks, expOkAs, expOk, hpL, resI, Idx.own, z0]; rfl) (by simp [expET, expEA, expEs, expEAs, expE1, resI, Idx.own, z0]) (by simp [expGT, expGA, expGs, expGAs, expG1, resI, Idx.own, z0])
  · rw [if_pos g1] at hres
    have hr := hr g1
    cases o with
    | none =>
      simp only at hres
      subst hres
      refine goCall [] rfl rfl rfl rfl (hr) (by repeat' first | exact ⟨by simp, _, _, _, _, rfl, (by first | rfl | (simp; done)), rfl⟩ | constructor | (simp; done)) (.inl rfl) rfl rfl ?_
      repeat refine go1 (F := F) rfl ?_
      refine goFin (F := F) rfl (by simp [expOkT, expOkA, expOks, expOkAs, expOk, hpL, resI, Idx.own, z0]; rfl) (by simp [expET, expEA, expEs, expEAs, expE1, resI, Idx.own, z0]) (by simp [expGT, expGA, expGs, expGAs, expG1, resI, Idx.own, z0])
    | some y =>
      simp only at hres
      obtain ⟨ya, yb, yc⟩ := y
      refine goCall [] rfl rfl rfl rfl (hr) (by repeat' first | exact ⟨by simp, _, _, _, _, rfl, (by first | rfl | (simp; done)), rfl⟩ | constructor | (simp; done)) (.inl rfl) rfl rfl ?_
      repeat refine go1 (F := F) rfl ?_
      refine goCall [2] rfl rfl rfl rfl (c_specIsIndexTerm (.mk ya yb yc) (by have h1 := redI_size (.mk op n ks) (.mk ya yb yc) 60 (by omega) (isI_ok g1).2 hrx; have h2 := (isI_ok g1).2; omega)) (by repeat' first | exact ⟨by simp, _, _, _, _, rfl, (by first | rfl | (simp; done)), rfl⟩ | constructor | (simp; done)) (.inr rfl) rfl rfl ?_
      repeat refine go1 (F := F) rfl ?_
      refine goIf rfl (fun g2 => ?_) (fun g2 => ?_) <;> (try simp at g2) <;> (repeat refine go1 (F := F) rfl ?_)
      · rw [if_neg (by rw [g2]; simp)] at hres
        subst hres
        refine goFin (F := F) rfl (by simp [expOkT, expOkA, expOks, expOkAs, expOk, hpL, resI, Idx.own, z0]; rfl) (by simp [expET, expEA, expEs, expEAs, expE1, resI, Idx.own, z0]) (by simp [expGT, expGA, expGs, expGAs, expG1, resI, Idx.own, z0])
      · rw [if_pos g2] at hres
        subst hres
        refine goFin (F := F) rfl ?_ ?_ ?_
        · simp [expOkT, expOkA, expOks, expOkAs, expOk, hpL, resI, Idx.own]
        · simp [expET, expEA, expEs, expEAs, expE1, resI, Idx.own]
        · simp [expGT, expGA, expGs, expGAs, expG1, resI, Idx.own]
end Go.Proofs.Ix
