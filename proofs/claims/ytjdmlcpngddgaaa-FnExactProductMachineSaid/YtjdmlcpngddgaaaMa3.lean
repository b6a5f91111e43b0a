/- Part of a proof over the seat Ytjdmlcpngddgaaa: what the text lends is said at its theorems. -/
import Derived.Test.YtjdmlcpngddgaaaMa2
set_option linter.unusedVariables false
set_option linter.unusedSimpArgs false
set_option maxRecDepth 20000
namespace Go.Proofs.Ma
open Go Go.Al Go.Proofs
open Go.Proofs.Tst (c_l1In c_l1Atom c_isAtom mixed)

theorem mulpow {s r : Int} (h1 : 1 ≤ s) (h2 : s ≤ 9) (h3 : 0 ≤ r) (h4 : r ≤ 3) : 0 ≤ s * 2 ^ r.toNat ∧ s * 2 ^ r.toNat ≤ 72 := by
  have : r = 0 ∨ r = 1 ∨ r = 2 ∨ r = 3 := by omega
  rcases this with rfl | rfl | rfl | rfl <;> simp <;> omega
theorem all_at {α : Type} {p : α → Bool} {xs : List α} {i : Nat} {x : α} (h : xs[i]? = some x) : (xs.drop i).all p = (p x && (xs.drop (i + 1)).all p) := by rw [drop_cons h, List.all_cons]

theorem c_specIsMachine (x : Mach) : ACall Try.prog 0 21 [.agg (x.enc.map (MD .st))] (hpL []) (.bool (isM x)) (hpL []) := by
  obtain ⟨s, r, acc, mov⟩ := x
  generalize hres : isM ⟨s, r, acc, mov⟩ = res
  unfold isM at hres
  simp only at hres
  refine acall_gob (fn := Try.f21) (by kernel_rfl) (by kernel_rfl) (by rfl) (Nat.le_of_ble_eq_true rfl) fun hb => ?_
  show AGo _ _ _ _ _ ⟨58, _, _⟩
  repeat refine go1 (F := F) rfl ?_
  have hl : mov.length ≤ 9223372036854775807 := by
    have h1 : AB (.agg [.int .i64 s, .int .i64 r, .sl .st (acc.map encB), .sl .st (mov.map Mov.enc)]) := hb.1
    simp only [AB, ABs] at h1
    have := h1.2.2.2.1.of_sl.1
    simpa [maxLen] using this
  refine goDraw ?_
  repeat first | refine dgo1 (F := F) rfl ?_ | refine dgoAlloc (F := F) rfl rfl rfl rfl rfl rfl rfl ?_
  refine dgoCall [] rfl rfl rfl rfl rfl (c_l1In s 1 9) (by repeat' first | exact ⟨by simp, _, _, _, _, rfl, (by first | rfl | (simp; done)), rfl⟩ | constructor | (simp; done)) (.inl rfl) rfl rfl rfl ?_
  repeat first | refine dgo1 (F := F) rfl ?_ | refine dgoAlloc (F := F) rfl rfl rfl rfl rfl rfl rfl ?_
  refine dgoGuard rfl rfl rfl (fun g1 => ?_) (fun g1 => ?_) <;> (try simp at g1) <;> (repeat first | refine dgo1 (F := F) rfl ?_ | refine dgoAlloc (F := F) rfl rfl rfl rfl rfl rfl rfl ?_)
  · refine dgoEnd (L := []) mixed (by kernel_rfl) (by kernel_rfl) trivial ?_
    repeat refine go1 (F := F) rfl ?_
    have e : ¬ (1 ≤ s ∧ s ≤ 9) := by omega
    repeat refine go1 (F := F) rfl ?_
    refine goDone (F := F) rfl rfl ?_
    rw [← hres]; simp; intro a b; omega
  · refine dgoCall [] rfl rfl rfl rfl rfl (c_l1In r 0 3) (by repeat' first | exact ⟨by simp, _, _, _, _, rfl, (by first | rfl | (simp; done)), rfl⟩ | constructor | (simp; done)) (.inl rfl) rfl rfl rfl ?_
    repeat first | refine dgo1 (F := F) rfl ?_ | refine dgoAlloc (F := F) rfl rfl rfl rfl rfl rfl rfl ?_
    refine dgoGuard rfl rfl rfl (fun g2 => ?_) (fun g2 => ?_) <;> (try simp at g2) <;> (repeat first | refine dgo1 (F := F) rfl ?_ | refine dgoAlloc (F := F) rfl rfl rfl rfl rfl rfl rfl ?_)
    · refine dgoEnd (L := []) mixed (by kernel_rfl) (by kernel_rfl) trivial ?_
      repeat refine go1 (F := F) rfl ?_
      repeat refine go1 (F := F) rfl ?_
      refine goDone (F := F) rfl rfl ?_
      rw [← hres]; simp; intro a b c d; omega
    · rw [List.length_map]
      refine dgoGuard rfl rfl rfl (fun g3 => ?_) (fun g3 => ?_) <;> (try simp at g3) <;> (repeat first | refine dgo1 (F := F) rfl ?_ | refine dgoAlloc (F := F) rfl rfl rfl rfl rfl rfl rfl ?_)
      · refine dgoEnd (L := []) mixed (by kernel_rfl) (by kernel_rfl) trivial ?_
        repeat refine go1 (F := F) rfl ?_
        repeat refine go1 (F := F) rfl ?_
        refine goDone (F := F) rfl rfl ?_
        rw [← hres]; simp; intro a b c d e; omega
      · rw [List.length_map]
        refine dgoCall [] rfl rfl rfl rfl rfl (c_l7Cases ⟨s, r, acc, mov⟩ (by simp only; omega)) (by repeat' first | exact ⟨by simp, _, _, _, _, rfl, (by first | rfl | (simp; done)), rfl⟩ | constructor | (simp; done)) (.inl rfl) rfl rfl rfl ?_
        repeat first | refine dgo1 (F := F) rfl ?_ | refine dgoAlloc (F := F) rfl rfl rfl rfl rfl rfl rfl ?_
        have hm := mulpow g1.1 g1.2 g2.1 g2.2
        rw [wrap64 (n := s * 2 ^ r.toNat) (by omega) (by omega)]
        refine dgoEnd (L := []) mixed (by kernel_rfl) (by kernel_rfl) trivial ?_
        repeat refine go1 (F := F) rfl ?_
        refine goIf rfl (fun h4 => ?_) (fun h4 => ?_) <;> (try simp at h4) <;> (repeat refine go1 (F := F) rfl ?_)
        · refine goDone (F := F) rfl rfl ?_
          rw [← hres]; simp; intro a b c d e; omega
        · rw [decide_eq_true ⟨g1.1, g1.2, g2.1, g2.2, g3, h4⟩, Bool.true_and] at hres
          rw [List.length_map]
          refine goLoop (X := {i : Nat // i ≤ mov.length ∧ res = (mov.drop i).all (okMov s r)}) (fun i => [(1, .ptr 0 0), (35, .sl .st (mov.map Mov.enc)), (36, .int .i64 mov.length), (37, .int .i64 i.1)]) (fun _ => [some (.box [.int .i64 s, .int .i64 r, .sl .st (acc.map encB), .sl .st (mov.map Mov.enc)])]) (fun i => mov.length - i.1) (⟨0, by simp [hres]⟩) (Le.weak [] (by repeat' first | constructor | omega | (simp; done) | (simp; omega)) (by repeat' first | constructor | omega | (simp; done) | (simp; omega)) (by simp) (by intro i hi; first | omega | (rcases i with _ | _ | _ | i <;> first | (intro _; rfl) | omega))) ?_
          rintro ⟨i, hi, hs⟩
          simp only at hi hs ⊢
          repeat refine go1 (F := F) rfl ?_
          refine goIf rfl (fun hr => ?_) (fun hr => ?_) <;> (try simp at hr) <;> (repeat refine go1 (F := F) rfl ?_)
          · obtain ⟨⟨a, b⟩, hx⟩ := at_of (xs := mov) (i := i) (by omega)
            refine goAt (F := F) rfl rfl rfl rfl rfl rfl (by first | exact Int.natCast_nonneg _ | omega) (map_at hx) rfl rfl (Nat.zero_lt_succ _) ?_
            repeat refine go1 (F := F) rfl ?_
            rw [all_at hx, okMov] at hs
            simp only at hs
            rw [wrap64 (n := s - 1) (by omega) (by omega)]
            refine goCall [] rfl rfl rfl rfl (c_l1In a 0 (s - 1)) (by repeat' first | exact ⟨by simp, _, _, _, _, rfl, (by first | rfl | (simp; done)), rfl⟩ | constructor | (simp; done)) (.inl rfl) rfl rfl ?_
            repeat refine go1 (F := F) rfl ?_
            refine goGuard rfl rfl rfl (fun k1 => ?_) (fun k1 => ?_) <;> (try simp at k1) <;> (repeat refine go1 (F := F) rfl ?_)
            · rw [decide_eq_false (by omega)] at hs
              refine goDone (F := F) rfl rfl ?_
              rw [hs]; rfl
            · rw [wrap64 (n := r - 1) (by omega) (by omega)]
              refine goCall [] rfl rfl rfl rfl (c_l1In b (-1) (r - 1)) (by repeat' first | exact ⟨by simp, _, _, _, _, rfl, (by first | rfl | (simp; done)), rfl⟩ | constructor | (simp; done)) (.inl rfl) rfl rfl ?_
              repeat refine go1 (F := F) rfl ?_
              rw [decide_eq_true (by omega)] at hs
              refine goIf rfl (fun k2 => ?_) (fun k2 => ?_) <;> (try simp at k2) <;> (repeat refine go1 (F := F) rfl ?_)
              · rw [decide_eq_false (by omega)] at hs
                refine goDone (F := F) rfl rfl ?_
                rw [hs]; rfl
              · rw [decide_eq_true (by omega)] at hs
                rw [wrap64 (n := (i : Int) + 1) (by omega) (by omega)]
                refine goInv ⟨⟨i + 1, by omega, hs⟩, (by simp; omega), (Le.weak [] (by repeat' first | constructor | omega | (simp; done) | (simp; omega)) (by repeat' first | constructor | omega | (simp; done) | (simp; omega)) (by simp) (by intro i hi; first | omega | (rcases i with _ | _ | _ | i <;> first | (intro _; rfl) | omega)))⟩
          · rw [List.drop_eq_nil_of_le (by omega)] at hs
            refine goDone (F := F) rfl rfl ?_
            rw [hs]; rfl

theorem c_IsMachine (x : Mach) : ACall Try.prog 0 23 [.agg (x.enc.map (MD .st))] (hpL []) (.bool (isM x)) (hpL []) := by
  obtain ⟨s, r, acc, mov⟩ := x
  generalize hres : isM ⟨s, r, acc, mov⟩ = res
  unfold isM at hres
  simp only at hres
  refine acall_gob (fn := Try.f23) (by kernel_rfl) (by kernel_rfl) (by rfl) (Nat.le_of_ble_eq_true rfl) fun hb => ?_
  show AGo _ _ _ _ _ ⟨70, _, _⟩
  repeat refine go1 (F := F) rfl ?_
  have hl : mov.length ≤ 9223372036854775807 := by
    have h1 : AB (.agg [.int .i64 s, .int .i64 r, .sl .st (acc.map encB), .sl .st (mov.map Mov.enc)]) := hb.1
    simp only [AB, ABs] at h1
    have := h1.2.2.2.1.of_sl.1
    simpa [maxLen] using this
  refine goGuard rfl rfl rfl (fun g1 => ?_) (fun g1 => ?_) <;> (try simp at g1) <;> (repeat refine go1 (F := F) rfl ?_)
  · refine goDone (F := F) rfl rfl ?_
    rw [← hres]; simp; intro a b; omega
  · refine goGuard rfl rfl rfl (fun g2 => ?_) (fun g2 => ?_) <;> (try simp at g2) <;> (repeat refine go1 (F := F) rfl ?_)
    · refine goDone (F := F) rfl rfl ?_
      rw [← hres]; simp; intro a b; omega
    · refine goGuard rfl rfl rfl (fun g3 => ?_) (fun g3 => ?_) <;> (try simp at g3) <;> (repeat refine go1 (F := F) rfl ?_)
      · refine goDone (F := F) rfl rfl ?_
        rw [← hres]; simp; intro a b; omega
      · refine goIf rfl (fun g4 => ?_) (fun g4 => ?_) <;> (try simp at g4) <;> (repeat refine go1 (F := F) rfl ?_)
        · refine goDone (F := F) rfl rfl ?_
          rw [← hres]; simp; intro a b; omega
        · refine goDraw ?_
          repeat first | refine dgo1 (F := F) rfl ?_ | refine dgoAlloc (F := F) rfl rfl rfl rfl rfl rfl rfl ?_
          rw [List.length_map]
          refine dgoGuard rfl rfl rfl (fun g5 => ?_) (fun g5 => ?_) <;> (try simp at g5) <;> (repeat first | refine dgo1 (F := F) rfl ?_ | refine dgoAlloc (F := F) rfl rfl rfl rfl rfl rfl rfl ?_)
          · refine dgoEnd (L := []) mixed (by kernel_rfl) (by kernel_rfl) trivial ?_
            repeat refine go1 (F := F) rfl ?_
            repeat refine go1 (F := F) rfl ?_
            refine goDone (F := F) rfl rfl ?_
            rw [← hres]; simp; intro a b c d e; omega
          · rw [List.length_map]
            refine dgoEv (F := F) rfl rfl rfl rfl (evQ_bin rfl rfl rfl (ev_shl g3)) ?_
            repeat first | refine dgo1 (F := F) rfl ?_ | refine dgoAlloc (F := F) rfl rfl rfl rfl rfl rfl rfl ?_
            have hm := mulpow g1 g2 g3 g4
            rw [show min r.toNat IntKind.i64.bits = r.toNat by simp [IntKind.bits]; omega, wrap64 (n := s * 2 ^ r.toNat) (by omega) (by omega)]
            refine dgoEnd (L := []) mixed (by kernel_rfl) (by kernel_rfl) trivial ?_
            repeat refine go1 (F := F) rfl ?_
            refine goIf rfl (fun h4 => ?_) (fun h4 => ?_) <;> (try simp at h4) <;> (repeat refine go1 (F := F) rfl ?_)
            · refine goDone (F := F) rfl rfl ?_
              rw [← hres]; simp; intro a b c d e; omega
            · rw [decide_eq_true ⟨g1, g2, g3, g4, g5, h4⟩, Bool.true_and] at hres
              rw [List.length_map]
              refine goLoop (X := {i : Nat // i ≤ mov.length ∧ res = (mov.drop i).all (okMov s r)}) (fun i => [(1, .ptr 0 0), (41, .sl .st (mov.map Mov.enc)), (42, .int .i64 mov.length), (43, .int .i64 i.1)]) (fun _ => [some (.box [.int .i64 s, .int .i64 r, .sl .st (acc.map encB), .sl .st (mov.map Mov.enc)])]) (fun i => mov.length - i.1) (⟨0, by simp [hres]⟩) (Le.weak [] (by repeat' first | constructor | omega | (simp; done) | (simp; omega)) (by repeat' first | constructor | omega | (simp; done) | (simp; omega)) (by simp) (by intro i hi; first | omega | (rcases i with _ | _ | _ | i <;> first | (intro _; rfl) | omega))) ?_
              rintro ⟨i, hi, hs⟩
              simp only at hi hs ⊢
              repeat refine go1 (F := F) rfl ?_
              refine goIf rfl (fun hr => ?_) (fun hr => ?_) <;> (try simp at hr) <;> (repeat refine go1 (F := F) rfl ?_)
              · obtain ⟨⟨a, b⟩, hx⟩ := at_of (xs := mov) (i := i) (by omega)
                refine goAt (F := F) rfl rfl rfl rfl rfl rfl (by first | exact Int.natCast_nonneg _ | omega) (map_at hx) rfl rfl (Nat.zero_lt_succ _) ?_
                repeat refine go1 (F := F) rfl ?_
                rw [all_at hx, okMov] at hs
                simp only at hs
                refine goGuard rfl rfl rfl (fun k1 => ?_) (fun k1 => ?_) <;> (try simp at k1) <;> (repeat refine go1 (F := F) rfl ?_)
                · rw [decide_eq_false (by omega)] at hs
                  refine goDone (F := F) rfl rfl ?_
                  rw [hs]; rfl
                · refine goGuard rfl rfl rfl (fun k2 => ?_) (fun k2 => ?_) <;> (try simp at k2) <;> (repeat refine go1 (F := F) rfl ?_)
                  · rw [decide_eq_false (by omega)] at hs
                    refine goDone (F := F) rfl rfl ?_
                    rw [hs]; rfl
                  · rw [decide_eq_true (by omega)] at hs
                    refine goGuard rfl rfl rfl (fun k3 => ?_) (fun k3 => ?_) <;> (try simp at k3) <;> (repeat refine go1 (F := F) rfl ?_)
                    · rw [decide_eq_false (by omega)] at hs
                      refine goDone (F := F) rfl rfl ?_
                      rw [hs]; rfl
                    · refine goIf rfl (fun k4 => ?_) (fun k4 => ?_) <;> (try simp at k4) <;> (repeat refine go1 (F := F) rfl ?_)
                      · rw [decide_eq_false (by omega)] at hs
                        refine goDone (F := F) rfl rfl ?_
                        rw [hs]; rfl
                      · rw [decide_eq_true (by omega)] at hs
                        rw [wrap64 (n := (i : Int) + 1) (by omega) (by omega)]
                        refine goInv ⟨⟨i + 1, by omega, hs⟩, (by simp; omega), (Le.weak [] (by repeat' first | constructor | omega | (simp; done) | (simp; omega)) (by repeat' first | constructor | omega | (simp; done) | (simp; omega)) (by simp) (by intro i hi; first | omega | (rcases i with _ | _ | _ | i <;> first | (intro _; rfl) | omega)))⟩
              · rw [List.drop_eq_nil_of_le (by omega)] at hs
                refine goDone (F := F) rfl rfl ?_
                rw [hs]; rfl

theorem c_law5 (x : Mach) : ACall Try.prog 0 5 [.agg (x.enc.map (MD .st))] (hpL []) (.bool true) (hpL []) := by
  have s1 := c_szMachine x 1048576 (by omega) (by omega)
  generalize hr1 : szM x 1048576 = r1 at s1
  obtain ⟨s, r, acc, mov⟩ := x
  refine acall_go (fn := Try.f5) (by kernel_rfl) (by kernel_rfl) (by rfl) (Nat.le_of_ble_eq_true rfl) ?_
  show AGo _ _ _ _ _ ⟨27, _, _⟩
  repeat refine go1 (F := F) rfl ?_
  refine goCall [] rfl rfl rfl rfl (s1) (by repeat' first | exact ⟨by simp, _, _, _, _, rfl, (by first | rfl | (simp; done)), rfl⟩ | constructor | (simp; done)) (.inl rfl) rfl rfl ?_
  repeat refine go1 (F := F) rfl ?_
  refine goIf rfl (fun h1 => ?_) (fun h1 => ?_) <;> (try simp at h1) <;> (repeat refine go1 (F := F) rfl ?_)
  · refine goDone (F := F) rfl rfl ?_
    rfl
  · have hs := szM_ok (x := ⟨s, r, acc, mov⟩) (m := 1048576) (by omega)
    simp only at hs
    have t1 := c_toMachine ⟨s, r, acc, mov⟩ (by simp only; omega) (by simp only; omega)
    refine goCall [] rfl rfl rfl rfl (t1) (by repeat' first | exact ⟨by simp, _, _, _, _, rfl, (by first | rfl | (simp; done)), rfl⟩ | constructor | (simp; done)) (.inl rfl) rfl rfl ?_
    repeat refine go1 (F := F) rfl ?_
    refine goCall [1, 2] rfl rfl rfl rfl (c_specIsMachine ⟨s, r, acc, mov⟩) (by repeat' first | exact ⟨by simp, _, _, _, _, rfl, (by first | rfl | (simp; done)), rfl⟩ | constructor | (simp; done)) (.inr rfl) rfl rfl ?_
    repeat refine go1 (F := F) rfl ?_
    refine goCall [] rfl rfl rfl rfl (t1) (by repeat' first | exact ⟨by simp, _, _, _, _, rfl, (by first | rfl | (simp; done)), rfl⟩ | constructor | (simp; done)) (.inl rfl) rfl rfl ?_
    repeat refine go1 (F := F) rfl ?_
    refine goCall [3, 4] rfl rfl rfl rfl (c_IsMachine ⟨s, r, acc, mov⟩) (by repeat' first | exact ⟨by simp, _, _, _, _, rfl, (by first | rfl | (simp; done)), rfl⟩ | constructor | (simp; done)) (.inr rfl) rfl rfl ?_
    repeat refine go1 (F := F) rfl ?_
    refine goIf rfl (fun h3 => ?_) (fun h3 => ?_) <;> (try simp at h3) <;> (repeat refine go1 (F := F) rfl ?_)
    refine goDraw ?_
    repeat first | refine dgo1 (F := F) rfl ?_ | refine dgoAlloc (F := F) rfl rfl rfl rfl rfl rfl rfl ?_
    refine dgoCall [] rfl rfl rfl rfl rfl (t1) (by repeat' first | exact ⟨by simp, _, _, _, _, rfl, (by first | rfl | (simp; done)), rfl⟩ | constructor | (simp; done)) (.inl rfl) rfl rfl rfl ?_
    repeat first | refine dgo1 (F := F) rfl ?_ | refine dgoAlloc (F := F) rfl rfl rfl rfl rfl rfl rfl ?_
    refine dgoCall [3, 4, 6, 7] rfl rfl rfl rfl rfl (c_eqMachine ⟨s, r, acc, mov⟩) (by repeat' first | exact ⟨by simp, _, _, _, _, rfl, (by first | rfl | (simp; done)), rfl⟩ | constructor | (simp; done)) (.inr rfl) rfl rfl rfl ?_
    repeat first | refine dgo1 (F := F) rfl ?_ | refine dgoAlloc (F := F) rfl rfl rfl rfl rfl rfl rfl ?_
    refine dgoEndQ (F := F) mixed [(0, 3)] (by kernel_rfl) (by kernel_rfl) (by kernel_rfl) ?_
    repeat refine go1 (F := F) rfl ?_
    refine goDone (F := F) rfl rfl ?_
    rfl
end Go.Proofs.Ma
