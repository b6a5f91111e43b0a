/- Part of a proof over the seat Ytjdmlcpngddgaaa: what the text lends is said at its theorems. -/
import Derived.Test.YtjdmlcpngddgaaaIx2
set_option linter.unusedVariables false
set_option linter.unusedSimpArgs false
set_option maxRecDepth 20000
namespace Go.Proofs.Tst
open Go Go.Al Go.Proofs

mutual
/-- What the program's rightIndex answers and leaves. -/
def rI : Idx → Int → Bool × Int
  | .mk op n ks, m => if m - 1 < 0 then (false, m - 1) else
      if (op = 1 ∨ op = 2) ∧ 0 ≤ n ∧ n ≤ 999 then (if ks.length ≠ 0 then (false, m - 1) else rL ks (m - 1)) else
      if op = 3 then (if n ≠ 0 ∨ ks.length ≠ 1 then (false, m - 1) else rL ks (m - 1)) else
      if op = 4 then (if n ≠ 0 ∨ ks.length ≠ 2 then (false, m - 1) else rL ks (m - 1)) else (false, m - 1)
def rL : List Idx → Int → Bool × Int
  | [], m => (true, m)
  | x :: xs, m => if (rI x m).1 then rL xs (rI x m).2 else (false, (rI x m).2)
end
theorem rL_at {ks : List Idx} {i : Nat} {x : Idx} {m : Int} (h : ks[i]? = some x) : rL (ks.drop i) m = if (rI x m).1 then rL (ks.drop (i + 1)) (rI x m).2 else (false, (rI x m).2) := by rw [drop_at h, rL]
mutual
theorem rI_ok : ∀ (x : Idx) (m : Int), 0 ≤ m → (rI x m).2 ≤ m ∧ ((rI x m).1 = true → 0 ≤ (rI x m).2) ∧ (rI x m).1 = (rightI x && decide (sizeI x ≤ m)) ∧ ((rI x m).1 = true → (rI x m).2 = m - sizeI x)
  | .mk op n ks, m, h0 => by
    have hs := sizeL_nn ks
    by_cases hm : m - 1 < 0
    · rw [rI, if_pos hm]
      refine ⟨by simp only; omega, by simp, ?_, by simp⟩
      simp only; rw [sizeI, decide_eq_false (p := 1 + sizeL ks ≤ m) (by omega), Bool.and_false]
    · obtain ⟨k1, k2, k3, k4⟩ := rL_ok ks (m - 1) (by omega)
      have hbad : ∀ {b : Bool}, rightI (.mk op n ks) = b → b = false → ((false, m - 1) : Bool × Int).2 ≤ m ∧ (((false, m - 1) : Bool × Int).1 = true → 0 ≤ ((false, m - 1) : Bool × Int).2) ∧ ((false, m - 1) : Bool × Int).1 = (b && decide (sizeI (.mk op n ks) ≤ m)) ∧ (((false, m - 1) : Bool × Int).1 = true → ((false, m - 1) : Bool × Int).2 = m - sizeI (.mk op n ks)) := fun _ e => by
        subst e; exact ⟨by simp only; omega, by simp, by simp, by simp⟩
      have hgood : rightI (.mk op n ks) = rightL ks → (rL ks (m - 1)).2 ≤ m ∧ ((rL ks (m - 1)).1 = true → 0 ≤ (rL ks (m - 1)).2) ∧ (rL ks (m - 1)).1 = (rightI (.mk op n ks) && decide (sizeI (.mk op n ks) ≤ m)) ∧ ((rL ks (m - 1)).1 = true → (rL ks (m - 1)).2 = m - sizeI (.mk op n ks)) := fun e => by
        refine ⟨by omega, k2, ?_, fun h => ?_⟩
        · rw [k3, e, sizeI]; congr 1; simp; omega
        · rw [k4 h, sizeI]; omega
      rw [rI, if_neg hm]
      split
      · rename_i h1
        split
        · rename_i h2
          refine hbad rfl ?_
          rw [rightI]
          rcases h1.1 with e | e <;> simp [e, h2]
        · rename_i h2
          refine hgood ?_
          have : ks = [] := List.eq_nil_of_length_eq_zero (by omega)
          subst this
          rw [rightI, rightL]
          rcases h1.1 with e | e <;> simp [e] <;> omega
      · rename_i h1
        split
        · rename_i h3
          subst h3
          split
          · rename_i h2; refine hbad rfl ?_; rw [rightI]; simp only [h2, if_true]; simp
          · rename_i h2; refine hgood ?_; rw [rightI]; simp only [h2, if_false]; simp
        · rename_i h3
          split
          · rename_i h4
            subst h4
            split
            · rename_i h2; refine hbad rfl ?_; rw [rightI]; simp only [h2, if_true]; simp
            · rename_i h2; refine hgood ?_; rw [rightI]; simp only [h2, if_false]; simp
          · rename_i h4
            refine hbad rfl ?_
            rw [rightI]
            by_cases e1 : op = 1
            · simp [e1] at h1 ⊢; omega
            · by_cases e2 : op = 2
              · simp [e2] at h1 ⊢; omega
              · simp [e1, e2, h3, h4]
theorem rL_ok : ∀ (xs : List Idx) (m : Int), 0 ≤ m → (rL xs m).2 ≤ m ∧ ((rL xs m).1 = true → 0 ≤ (rL xs m).2) ∧ (rL xs m).1 = (rightL xs && decide (sizeL xs ≤ m)) ∧ ((rL xs m).1 = true → (rL xs m).2 = m - sizeL xs)
  | [], m, h0 => by simp [rL, rightL, sizeL, h0]
  | x :: xs, m, h0 => by
    obtain ⟨h1, h2, h3, h4⟩ := rI_ok x m h0
    have hs := sizeL_nn xs
    rw [rL]
    cases hb : (rI x m).1 with
    | false =>
      simp only [Bool.false_eq_true, if_false]
      refine ⟨h1, by simp, ?_, by simp⟩
      rw [hb] at h3
      rw [rightL, sizeL]
      cases hr : rightI x with
      | false => rfl
      | true =>
        rw [hr] at h3
        simp at h3 ⊢
        intro _; omega
    | true =>
      simp only [if_true]
      obtain ⟨k1, k2, k3, k4⟩ := rL_ok xs _ (h2 hb)
      rw [hb] at h3
      have h5 := h4 hb
      simp only [Bool.true_eq, Bool.and_eq_true, decide_eq_true_eq] at h3
      refine ⟨by omega, k2, ?_, fun h => ?_⟩
      · rw [k3, rightL, h3.1, Bool.true_and, sizeL]; congr 1; simp; omega
      · rw [k4 h, sizeL]; omega
end

theorem c_rightIndex : ∀ (x : Idx) (m : Int), 0 ≤ m → m ≤ 1000 → ACall Try.prog 1 55 [.agg ((enc x).map (MD .st)), .ptr 0 0] (hpL [some (.box [.int .i64 m])]) (.bool (rI x m).1) (hpL [some (.box [.int .i64 (rI x m).2])]) := by
  refine Idx.rec' fun op n ks ih m h0 hM => ?_
  generalize hres : rI (.mk op n ks) m = res
  rw [rI] at hres
  refine acall_gob (fn := Try.f55) (by kernel_rfl) (by kernel_rfl) (by rfl) (Nat.le_of_ble_eq_true rfl) fun hb => ?_
  show AGo _ _ _ _ _ ⟨65, _, _⟩
  repeat refine go1 (F := F) rfl ?_
  have hl := (ab_idx hb).1
  rw [wrap64 (n := m - 1) (by omega) (by omega)]
  refine goIf rfl (fun h0 => ?_) (fun h0 => ?_) <;> (try simp at h0) <;> (repeat refine go1 (F := F) rfl ?_)
  · rw [if_pos h0] at hres
    subst hres
    refine goDoneV (F := F) rfl rfl rfl rfl rfl rfl
  · rw [if_neg (by omega)] at hres
    refine goCut (X := {w : Nat // res = if ks.length ≠ w ∨ (0 < w ∧ n ≠ 0) then (false, m - 1) else rL ks (m - 1)}) 2 (fun w => [(1, .ptr 0 0), (2, .ptr 1 0), (5, .int .i64 w.1)]) (fun _ => [some (.box [.int .i64 (m - 1)]), some (.box [.int .i64 op, .int .i64 n, .sl .st (encL ks)])]) rfl ?_ ?_
    · refine goIf rfl (fun h1 => ?_) (fun h1 => ?_) <;> (try simp at h1) <;> (repeat refine go1 (F := F) rfl ?_)
      · subst h1
        refine goGuard rfl rfl rfl (fun h2 => ?_) (fun h2 => ?_) <;> (try simp at h2) <;> (repeat refine go1 (F := F) rfl ?_)
        · have e : ¬ (0 ≤ n ∧ n ≤ 999) := by omega
          refine goDoneV (F := F) rfl rfl rfl rfl ?_ ?_
          all_goals rw [← hres]; simp [e]
        · refine goIf rfl (fun h3 => ?_) (fun h3 => ?_) <;> (try simp at h3) <;> (repeat refine go1 (F := F) rfl ?_)
          · have e : ¬ (0 ≤ n ∧ n ≤ 999) := by omega
            refine goDoneV (F := F) rfl rfl rfl rfl ?_ ?_
            all_goals rw [← hres]; simp [e]
          · have e : 0 ≤ n ∧ n ≤ 999 := by omega
            refine goInv ⟨⟨0, by rw [← hres]; simp [e]⟩, (Le.weak [] (by repeat' first | constructor | omega | (simp; done) | (simp; omega)) (by repeat' first | constructor | omega | (simp; done) | (simp; omega)) (by simp) (by intro i hi; first | omega | (rcases i with _ | _ | _ | i <;> first | (intro _; rfl) | omega)))⟩
      · refine goIf rfl (fun h2 => ?_) (fun h2 => ?_) <;> (try simp at h2) <;> (repeat refine go1 (F := F) rfl ?_)
        · subst h2
          refine goCall [] rfl rfl rfl rfl (c_isAtom n) (by repeat' first | exact ⟨by simp, _, _, _, _, rfl, (by first | rfl | (simp; done)), rfl⟩ | constructor | (simp; done)) (.inl rfl) rfl rfl ?_
          repeat refine go1 (F := F) rfl ?_
          refine goIf rfl (fun h3 => ?_) (fun h3 => ?_) <;> (try simp at h3) <;> (repeat refine go1 (F := F) rfl ?_)
          · have e : ¬ (0 ≤ n ∧ n ≤ 999) := by omega
            refine goDoneV (F := F) rfl rfl rfl rfl ?_ ?_
            all_goals rw [← hres]; simp [e]
          · have e : 0 ≤ n ∧ n ≤ 999 := by omega
            refine goInv ⟨⟨0, by rw [← hres]; simp [e]⟩, (Le.weak [] (by repeat' first | constructor | omega | (simp; done) | (simp; omega)) (by repeat' first | constructor | omega | (simp; done) | (simp; omega)) (by simp) (by intro i hi; first | omega | (rcases i with _ | _ | _ | i <;> first | (intro _; rfl) | omega)))⟩
        · refine goIf rfl (fun h3 => ?_) (fun h3 => ?_) <;> (try simp at h3) <;> (repeat refine go1 (F := F) rfl ?_)
          · subst h3
            refine goInv ⟨⟨1, by rw [← hres]; simp [or_comm]⟩, (Le.weak [] (by repeat' first | constructor | omega | (simp; done) | (simp; omega)) (by repeat' first | constructor | omega | (simp; done) | (simp; omega)) (by simp) (by intro i hi; first | omega | (rcases i with _ | _ | _ | i <;> first | (intro _; rfl) | omega)))⟩
          · refine goIf rfl (fun h4 => ?_) (fun h4 => ?_) <;> (try simp at h4) <;> (repeat refine go1 (F := F) rfl ?_)
            · subst h4
              refine goInv ⟨⟨2, by rw [← hres]; simp [or_comm]⟩, (Le.weak [] (by repeat' first | constructor | omega | (simp; done) | (simp; omega)) (by repeat' first | constructor | omega | (simp; done) | (simp; omega)) (by simp) (by intro i hi; first | omega | (rcases i with _ | _ | _ | i <;> first | (intro _; rfl) | omega)))⟩
            · refine goDoneV (F := F) rfl rfl rfl rfl ?_ ?_
              all_goals rw [← hres]; simp [h1, h2, h3, h4]
    · rintro ⟨w, hw⟩
      simp only at hw ⊢
      repeat refine go1 (F := F) rfl ?_
      rw [encL_len]
      refine goGuard rfl rfl rfl (fun g1 => ?_) (fun g1 => ?_) <;> (try simp at g1) <;> (repeat refine go1 (F := F) rfl ?_)
      · refine goDoneV (F := F) rfl rfl rfl rfl ?_ ?_
        all_goals rw [hw, if_pos (by omega)]
      · skip
        refine goCut (X := {u : Unit // res = rL ks (m - 1)}) 2 (fun _ => [(1, .ptr 0 0), (2, .ptr 1 0)]) (fun _ => [some (.box [.int .i64 (m - 1)]), some (.box [.int .i64 op, .int .i64 n, .sl .st (encL ks)])]) rfl ?_ ?_
        · refine goGuard rfl rfl rfl (fun g2 => ?_) (fun g2 => ?_) <;> (try simp at g2) <;> (repeat refine go1 (F := F) rfl ?_)
          · refine goIf rfl (fun g3 => ?_) (fun g3 => ?_) <;> (try simp at g3) <;> (repeat refine go1 (F := F) rfl ?_)
            · refine goDoneV (F := F) rfl rfl rfl rfl ?_ ?_
              all_goals rw [hw, if_pos (by omega)]
            · rw [if_neg (by omega)] at hw
              refine goInv ⟨⟨(), hw⟩, (Le.weak [] (by repeat' first | constructor | omega | (simp; done) | (simp; omega)) (by repeat' first | constructor | omega | (simp; done) | (simp; omega)) (by simp) (by intro i hi; first | omega | (rcases i with _ | _ | _ | i <;> first | (intro _; rfl) | omega)))⟩
          · rw [if_neg (by omega)] at hw
            refine goInv ⟨⟨(), hw⟩, (Le.weak [] (by repeat' first | constructor | omega | (simp; done) | (simp; omega)) (by repeat' first | constructor | omega | (simp; done) | (simp; omega)) (by simp) (by intro i hi; first | omega | (rcases i with _ | _ | _ | i <;> first | (intro _; rfl) | omega)))⟩
        · rintro ⟨_, hw⟩
          repeat refine go1 (F := F) rfl ?_
          rw [encL_len]
          refine goLoop (X := {p : Nat × Int // p.1 ≤ ks.length ∧ 0 ≤ p.2 ∧ p.2 ≤ 1000 ∧ res = rL (ks.drop p.1) p.2}) (fun p => [(1, .ptr 0 0), (54, .sl .st (encL ks)), (55, .int .i64 ks.length), (56, .int .i64 p.1.1)]) (fun p => [some (.box [.int .i64 p.1.2])]) (fun p => ks.length - p.1.1) (⟨(0, m - 1), by simp only; exact ⟨by omega, by omega, by omega, hw⟩⟩) (Le.weak [] (by repeat' first | constructor | omega | (simp; done) | (simp; omega)) (by repeat' first | constructor | omega | (simp; done) | (simp; omega)) (by simp) (by intro i hi; first | omega | (rcases i with _ | _ | _ | i <;> first | (intro _; rfl) | omega))) ?_
          rintro ⟨⟨i, m⟩, hi, h0, hM, hm⟩
          simp only at hi h0 hM hm ⊢
          repeat refine go1 (F := F) rfl ?_
          refine goIf rfl (fun hr => ?_) (fun hr => ?_) <;> (try simp at hr) <;> (repeat refine go1 (F := F) rfl ?_)
          · obtain ⟨⟨a, b, c⟩, hx⟩ := at_of (xs := ks) (i := i) (by omega)
            refine goAt (F := F) rfl rfl rfl rfl rfl rfl (by first | exact Int.natCast_nonneg _ | omega) (encL_at hx) rfl rfl (Nat.zero_lt_succ _) ?_
            repeat refine go1 (F := F) rfl ?_
            refine goCallRef [0] [] rfl rfl rfl rfl (ih _ (List.mem_of_getElem? hx) m h0 hM) (by repeat' first | exact ⟨by simp, _, _, _, _, rfl, (by first | rfl | (simp; done)), rfl⟩ | constructor | (simp; done)) (by repeat' first | exact ⟨by simp, _, _, _, _, rfl, (by first | rfl | (simp; done)), rfl⟩ | constructor | (simp; done)) rfl rfl rfl rfl rfl (.inl rfl) rfl rfl rfl ?_
            repeat refine go1 (F := F) rfl ?_
            rw [rL_at hx] at hm
            obtain ⟨k1, k2, _, _⟩ := rI_ok (.mk a b c) m h0
            refine goIf rfl (fun g4 => ?_) (fun g4 => ?_) <;> (try simp at g4) <;> (repeat refine go1 (F := F) rfl ?_)
            · rw [g4] at hm
              refine goDoneV (F := F) rfl rfl rfl rfl ?_ ?_
              all_goals rw [hm]; rfl
            · rw [g4] at hm
              rw [wrap64 (n := (i : Int) + 1) (by omega) (by omega)]
              refine goInv ⟨⟨(i + 1, (rI (.mk a b c) m).2), by simp only; exact ⟨by omega, k2 g4, by omega, hm⟩⟩, (by simp; omega), (Le.weak [] (by repeat' first | constructor | omega | (simp; done) | (simp; omega)) (by repeat' first | constructor | omega | (simp; done) | (simp; omega)) (by simp) (by intro i hi; first | omega | (rcases i with _ | _ | _ | i <;> first | (intro _; rfl) | omega)))⟩
          · rw [List.drop_eq_nil_of_le (by omega), rL] at hm
            refine goDoneV (F := F) rfl rfl rfl rfl ?_ ?_
            all_goals rw [hm]
end Go.Proofs.Tst
