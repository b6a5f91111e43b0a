/- Part of a proof over the seat Ytjdmlcpngddgaaa: what the text lends is said at its theorems. -/
import Derived.Test.YtjdmlcpngddgaaaIx1
import Derived.Test.YtjdmlcpngddgaaaAlCut
set_option linter.unusedVariables false
set_option linter.unusedSimpArgs false
set_option maxRecDepth 20000
namespace Go.Proofs.Tst
open Go Go.Al Go.Proofs

mutual
def rightI : Idx → Bool
  | .mk op n ks => if op = 1 then decide (0 ≤ n ∧ n ≤ 999) && decide (ks.length = 0) else if op = 2 then decide (0 ≤ n ∧ n ≤ 999) && decide (ks.length = 0) else
      if op = 3 then (if n ≠ 0 ∨ ks.length ≠ 1 then false else rightL ks) else if op = 4 then (if n ≠ 0 ∨ ks.length ≠ 2 then false else rightL ks) else false
def rightL : List Idx → Bool
  | [] => true
  | x :: xs => rightI x && rightL xs
end
mutual
def sizeI : Idx → Int
  | .mk _ _ ks => 1 + sizeL ks
def sizeL : List Idx → Int
  | [] => 0
  | x :: xs => sizeI x + sizeL xs
end
mutual
theorem sizeI_pos : ∀ x, 1 ≤ sizeI x
  | .mk _ _ ks => by rw [sizeI]; have := sizeL_nn ks; omega
theorem sizeL_nn : ∀ xs, 0 ≤ sizeL xs
  | [] => by simp [sizeL]
  | x :: xs => by rw [sizeL]; have := sizeI_pos x; have := sizeL_nn xs; omega
end
theorem sizeL_mem : ∀ {xs : List Idx} {x : Idx}, x ∈ xs → sizeI x ≤ sizeL xs
  | y :: ys, x, h => by
    rw [sizeL]
    have h1 := sizeI_pos y
    have h2 := sizeL_nn ys
    rcases List.mem_cons.1 h with h | h
    · subst h; omega
    · have := sizeL_mem h; omega
theorem at_of {α : Type} {xs : List α} {i : Nat} (h : i < xs.length) : ∃ x, xs[i]? = some x := ⟨_, List.getElem?_eq_getElem h⟩

theorem c_l8Size : ∀ x : Idx, sizeI x ≤ 1000000000 → ACall Try.prog 0 54 [.agg ((enc x).map (MD .st))] (hpL []) (.int .i64 (sizeI x)) (hpL []) := by
  refine Idx.rec' fun op n ks ih hs => ?_
  rw [sizeI] at hs ⊢
  refine acall_gob (fn := Try.f54) (by kernel_rfl) (by kernel_rfl) (by rfl) (Nat.le_of_ble_eq_true rfl) fun hb => ?_
  show AGo _ _ _ _ _ ⟨19, _, _⟩
  repeat refine go1 (F := F) rfl ?_
  have hl := (ab_idx hb).1
  rw [encL_len]
  refine goLoop (X := {p : Nat × Int // p.1 ≤ ks.length ∧ 0 ≤ p.2 ∧ p.2 + sizeL (ks.drop p.1) = 1 + sizeL ks}) (fun p => [(3, .int .i64 p.1.2), (7, .sl .st (encL ks)), (8, .int .i64 ks.length), (9, .int .i64 p.1.1)]) (fun _ => []) (fun p => ks.length - p.1.1) (⟨(0, 1), by simp⟩) (Le.weak [] (by repeat' first | constructor | omega | (simp; done) | (simp; omega)) (by repeat' first | constructor | omega | (simp; done) | (simp; omega)) (by simp) (by intro i hi; first | omega | (rcases i with _ | _ | _ | i <;> first | (intro _; rfl) | omega))) ?_
  rintro ⟨⟨i, m⟩, hi, h0, hm⟩
  simp only at hi h0 hm ⊢
  repeat refine go1 (F := F) rfl ?_
  refine goIf rfl (fun hr => ?_) (fun hr => ?_) <;> (try simp at hr) <;> (repeat refine go1 (F := F) rfl ?_)
  · obtain ⟨⟨a, b, c⟩, hx⟩ := at_of (xs := ks) (i := i) (by omega)
    refine goAt (F := F) rfl rfl rfl rfl rfl rfl (by first | exact Int.natCast_nonneg _ | omega) (encL_at hx) rfl rfl (Nat.zero_lt_succ _) ?_
    repeat refine go1 (F := F) rfl ?_
    have hm' := sizeL_mem (List.mem_of_getElem? hx)
    refine goCall [] rfl rfl rfl rfl (ih _ (List.mem_of_getElem? hx) (by omega)) (by repeat' first | exact ⟨by simp, _, _, _, _, rfl, (by first | rfl | (simp; done)), rfl⟩ | constructor | (simp; done)) (.inl rfl) rfl rfl ?_
    repeat refine go1 (F := F) rfl ?_
    have hd := drop_at hx
    rw [hd, sizeL] at hm
    have hp := sizeI_pos (.mk a b c)
    have hn := sizeL_nn (ks.drop (i + 1))
    rw [wrap64 (n := (i : Int) + 1) (by omega) (by omega), wrap64 (n := m + sizeI (.mk a b c)) (by omega) (by omega)]
    refine goInv ⟨⟨(i + 1, m + sizeI (.mk a b c)), by simp only; omega, by simp only; omega, by simp only; omega⟩, (by simp; omega), (Le.weak [] (by repeat' first | constructor | omega | (simp; done) | (simp; omega)) (by repeat' first | constructor | omega | (simp; done) | (simp; omega)) (by simp) (by intro i hi; first | omega | (rcases i with _ | _ | _ | i <;> first | (intro _; rfl) | omega)))⟩
  · have hk : ks.drop i = [] := List.drop_eq_nil_of_le (by omega)
    rw [hk, sizeL] at hm
    refine goDone (F := F) rfl rfl ?_
    simp; omega


theorem rightL_at {ks : List Idx} {i : Nat} {x : Idx} (h : ks[i]? = some x) : rightL (ks.drop i) = (rightI x && rightL (ks.drop (i + 1))) := by rw [drop_at h, rightL]
theorem c_l8Right : ∀ x : Idx, ACall Try.prog 0 53 [.agg ((enc x).map (MD .st))] (hpL []) (.bool (rightI x)) (hpL []) := by
  refine Idx.rec' fun op n ks ih => ?_
  generalize hres : rightI (.mk op n ks) = res
  rw [rightI] at hres
  refine acall_gob (fn := Try.f53) (by kernel_rfl) (by kernel_rfl) (by rfl) (Nat.le_of_ble_eq_true rfl) fun hb => ?_
  show AGo _ _ _ _ _ ⟨59, _, _⟩
  repeat refine go1 (F := F) rfl ?_
  have hl := (ab_idx hb).1
  refine goCut (X := {w : Nat // res = if w = 0 ∨ n ≠ 0 ∨ ks.length ≠ w then false else rightL ks}) 2 (fun w => [(1, .ptr 0 0), (3, .int .i64 w.1)]) (fun _ => [some (.box [.int .i64 op, .int .i64 n, .sl .st (encL ks)])]) rfl ?_ ?_
  · refine goIf rfl (fun h1 => ?_) (fun h1 => ?_) <;> (try simp at h1) <;> (repeat refine go1 (F := F) rfl ?_)
    · subst h1
      refine goCall [] rfl rfl rfl rfl (c_l1In n 0 999) (by repeat' first | exact ⟨by simp, _, _, _, _, rfl, (by first | rfl | (simp; done)), rfl⟩ | constructor | (simp; done)) (.inl rfl) rfl rfl ?_
      repeat refine go1 (F := F) rfl ?_
      refine goGuard rfl rfl rfl (fun h2 => ?_) (fun h2 => ?_) <;> (try simp at h2) <;> (repeat refine go1 (F := F) rfl ?_)
      · rw [encL_len]
        refine goDone (F := F) rfl rfl ?_
        rw [← hres]; simp [h2] <;> omega
      · refine goDone (F := F) rfl rfl ?_
        rw [← hres]; simp <;> omega
    · refine goIf rfl (fun h2 => ?_) (fun h2 => ?_) <;> (try simp at h2) <;> (repeat refine go1 (F := F) rfl ?_)
      · subst h2
        refine goCall [] rfl rfl rfl rfl (c_l1Atom n) (by repeat' first | exact ⟨by simp, _, _, _, _, rfl, (by first | rfl | (simp; done)), rfl⟩ | constructor | (simp; done)) (.inl rfl) rfl rfl ?_
        repeat refine go1 (F := F) rfl ?_
        refine goGuard rfl rfl rfl (fun h3 => ?_) (fun h3 => ?_) <;> (try simp at h3) <;> (repeat refine go1 (F := F) rfl ?_)
        · rw [encL_len]
          refine goDone (F := F) rfl rfl ?_
          rw [← hres]; simp [h3] <;> omega
        · refine goDone (F := F) rfl rfl ?_
          rw [← hres]; simp <;> omega
      · refine goIf rfl (fun h3 => ?_) (fun h3 => ?_) <;> (try simp at h3) <;> (repeat refine go1 (F := F) rfl ?_)
        · subst h3
          refine goInv ⟨⟨1, by rw [← hres]; simp⟩, (Le.weak [] (by repeat' first | constructor | omega | (simp; done) | (simp; omega)) (by repeat' first | constructor | omega | (simp; done) | (simp; omega)) (by simp) (by intro i hi; first | omega | (rcases i with _ | _ | _ | i <;> first | (intro _; rfl) | omega)))⟩
        · refine goIf rfl (fun h4 => ?_) (fun h4 => ?_) <;> (try simp at h4) <;> (repeat refine go1 (F := F) rfl ?_)
          · subst h4
            refine goInv ⟨⟨2, by rw [← hres]; simp⟩, (Le.weak [] (by repeat' first | constructor | omega | (simp; done) | (simp; omega)) (by repeat' first | constructor | omega | (simp; done) | (simp; omega)) (by simp) (by intro i hi; first | omega | (rcases i with _ | _ | _ | i <;> first | (intro _; rfl) | omega)))⟩
          · refine goInv ⟨⟨0, by rw [← hres]; simp [h1, h2, h3, h4]⟩, (Le.weak [] (by repeat' first | constructor | omega | (simp; done) | (simp; omega)) (by repeat' first | constructor | omega | (simp; done) | (simp; omega)) (by simp) (by intro i hi; first | omega | (rcases i with _ | _ | _ | i <;> first | (intro _; rfl) | omega)))⟩
  · rintro ⟨w, hw⟩
    simp only at hw ⊢
    repeat refine go1 (F := F) rfl ?_
    have fin : res = false ∨ (res = rightL ks) := by
      by_cases hc : w = 0 ∨ n ≠ 0 ∨ ks.length ≠ w
      · left; rw [hw, if_pos hc]
      · right; rw [hw, if_neg hc]
    refine goGuard rfl rfl rfl (fun g1 => ?_) (fun g1 => ?_) <;> (try simp at g1) <;> (repeat refine go1 (F := F) rfl ?_)
    · subst g1
      refine goDone (F := F) rfl rfl ?_
      rw [hw]; simp
    · refine goGuard rfl rfl rfl (fun g2 => ?_) (fun g2 => ?_) <;> (try simp at g2) <;> (repeat refine go1 (F := F) rfl ?_)
      · refine goDone (F := F) rfl rfl ?_
        rw [hw]; simp [g2]
      · rw [encL_len]
        refine goIf rfl (fun g3 => ?_) (fun g3 => ?_) <;> (try simp at g3) <;> (repeat refine go1 (F := F) rfl ?_)
        · refine goDone (F := F) rfl rfl ?_
          rw [hw]; simp; omega
        · rw [if_neg (by simp; omega)] at hw
          rw [encL_len]
          refine goLoop (X := {i : Nat // i ≤ ks.length ∧ rightL ks = rightL (ks.drop i)}) (fun i => [(49, .sl .st (encL ks)), (50, .int .i64 ks.length), (51, .int .i64 i.1)]) (fun _ => []) (fun i => ks.length - i.1) (⟨0, by simp⟩) (Le.weak [] (by repeat' first | constructor | omega | (simp; done) | (simp; omega)) (by repeat' first | constructor | omega | (simp; done) | (simp; omega)) (by simp) (by intro i hi; first | omega | (rcases i with _ | _ | _ | i <;> first | (intro _; rfl) | omega))) ?_
          rintro ⟨i, hi, hm⟩
          simp only at hi hm ⊢
          repeat refine go1 (F := F) rfl ?_
          refine goIf rfl (fun hr => ?_) (fun hr => ?_) <;> (try simp at hr) <;> (repeat refine go1 (F := F) rfl ?_)
          · obtain ⟨⟨a, b, c⟩, hx⟩ := at_of (xs := ks) (i := i) (by omega)
            refine goAt (F := F) rfl rfl rfl rfl rfl rfl (by first | exact Int.natCast_nonneg _ | omega) (encL_at hx) rfl rfl (Nat.zero_lt_succ _) ?_
            repeat refine go1 (F := F) rfl ?_
            refine goCall [] rfl rfl rfl rfl (ih _ (List.mem_of_getElem? hx)) (by repeat' first | exact ⟨by simp, _, _, _, _, rfl, (by first | rfl | (simp; done)), rfl⟩ | constructor | (simp; done)) (.inl rfl) rfl rfl ?_
            repeat refine go1 (F := F) rfl ?_
            rw [rightL_at hx] at hm
            refine goIf rfl (fun g4 => ?_) (fun g4 => ?_) <;> (try simp at g4) <;> (repeat refine go1 (F := F) rfl ?_)
            · refine goDone (F := F) rfl rfl ?_
              rw [hw, hm, g4]; rfl
            · rw [g4] at hm
              rw [wrap64 (n := (i : Int) + 1) (by omega) (by omega)]
              refine goInv ⟨⟨i + 1, by omega, hm⟩, (by simp; omega), (Le.weak [] (by repeat' first | constructor | omega | (simp; done) | (simp; omega)) (by repeat' first | constructor | omega | (simp; done) | (simp; omega)) (by simp) (by intro i hi; first | omega | (rcases i with _ | _ | _ | i <;> first | (intro _; rfl) | omega)))⟩
          · refine goDone (F := F) rfl rfl ?_
            rw [hw, hm, List.drop_eq_nil_of_le (by omega), rightL]
end Go.Proofs.Tst
