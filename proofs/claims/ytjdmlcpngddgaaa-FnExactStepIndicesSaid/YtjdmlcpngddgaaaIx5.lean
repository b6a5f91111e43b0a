/- Part of a proof over the seat Ytjdmlcpngddgaaa: what the text lends is said at its theorems. -/
import Derived.Test.YtjdmlcpngddgaaaIx4
import Derived.Test.YtjdmlcpngddgaaaAlLst
set_option linter.unusedVariables false
set_option linter.unusedSimpArgs false
set_option maxRecDepth 20000
namespace Go.Proofs.Ix
open Go Go.Al Go.Proofs
open Go.Proofs.Tst (Idx Idx.rec' enc encL encL_len encL_at F rightI rightL rightL_at sizeI sizeL sizeI_pos sizeL_nn sizeL_mem isI c_specIsIndexTerm c_IsIndexTerm ab_idx mixed a13 a15 a17 szI WI szI_bnd szI_small same_refl)

mutual
def closedI : Idx → Int → Bool
  | .mk op n ks, d => if op = 1 then decide (n < d) else closedL ks (if op = 3 then d + 1 else d)
def closedL : List Idx → Int → Bool
  | [], _ => true
  | x :: xs, d => closedI x d && closedL xs d
end
theorem closedL_at {ks : List Idx} {i : Nat} {x : Idx} {d : Int} (h : ks[i]? = some x) : closedL (ks.drop i) d = (closedI x d && closedL (ks.drop (i + 1)) d) := by rw [drop_cons h, closedL]

theorem c_l8Closed : ∀ (x : Idx) (d : Int), 0 ≤ d → d + sizeI x ≤ 1000000 → ACall Try.prog 0 64 [.agg ((enc x).map (MD .st)), .int .i64 d] (hpL []) (.bool (closedI x d)) (hpL []) := by
  refine Idx.rec' fun op n ks ih d h0 hM => ?_
  rw [closedI]
  rw [sizeI] at hM
  have hn := sizeL_nn ks
  refine acall_gob (fn := Try.f64) (by kernel_rfl) (by kernel_rfl) (by rfl) (Nat.le_of_ble_eq_true rfl) fun hb => ?_
  show AGo _ _ _ _ _ ⟨31, _, _⟩
  repeat refine go1 (F := F) rfl ?_
  have hl := (ab_idx hb).1
  refine goIf rfl (fun h1 => ?_) (fun h1 => ?_) <;> (try simp at h1) <;> (repeat refine go1 (F := F) rfl ?_)
  · refine goDone (F := F) rfl rfl ?_
    rw [if_pos h1]
  · rw [if_neg h1]
    refine goCut (X := Unit) 1 (fun _ => [(1, .int .i64 (if op = 3 then d + 1 else d)), (2, .ptr 0 0)]) (fun _ => [some (.box [.int .i64 op, .int .i64 n, .sl .st (encL ks)])]) rfl ?_ ?_
    · refine goIf rfl (fun h2 => ?_) (fun h2 => ?_) <;> (try simp at h2) <;> (repeat refine go1 (F := F) rfl ?_)
      · subst h2
        rw [wrap64 (n := d + 1) (by omega) (by omega)]
        refine goInv ⟨(), (Le.weak [] (by repeat' first | constructor | omega | (simp; done) | (simp; omega)) (by repeat' first | constructor | omega | (simp; done) | (simp; omega)) (by simp) (by intro i hi; first | omega | (rcases i with _ | _ | _ | i <;> first | (intro _; rfl) | omega)))⟩
      · rw [if_neg h2]
        refine goInv ⟨(), (Le.weak [] (by repeat' first | constructor | omega | (simp; done) | (simp; omega)) (by repeat' first | constructor | omega | (simp; done) | (simp; omega)) (by simp) (by intro i hi; first | omega | (rcases i with _ | _ | _ | i <;> first | (intro _; rfl) | omega)))⟩
    · rintro ⟨⟩
      have hd : 0 ≤ (if op = 3 then d + 1 else d) ∧ (if op = 3 then d + 1 else d) ≤ d + 1 := by split <;> omega
      generalize (if op = 3 then d + 1 else d) = e at hd ⊢
      repeat refine go1 (F := F) rfl ?_
      rw [encL_len]
      refine goLoop (X := {i : Nat // i ≤ ks.length ∧ closedL ks e = closedL (ks.drop i) e}) (fun i => [(1, .int .i64 e), (20, .sl .st (encL ks)), (21, .int .i64 ks.length), (22, .int .i64 i.1)]) (fun _ => []) (fun i => ks.length - i.1) (⟨0, by simp⟩) (Le.weak [] (by repeat' first | constructor | omega | (simp; done) | (simp; omega)) (by repeat' first | constructor | omega | (simp; done) | (simp; omega)) (by simp) (by intro i hi; first | omega | (rcases i with _ | _ | _ | i <;> first | (intro _; rfl) | omega))) ?_
      rintro ⟨i, hi, hm⟩
      simp only at hi hm ⊢
      repeat refine go1 (F := F) rfl ?_
      refine goIf rfl (fun hr => ?_) (fun hr => ?_) <;> (try simp at hr) <;> (repeat refine go1 (F := F) rfl ?_)
      · obtain ⟨⟨a, b, c⟩, hx⟩ := at_of (xs := ks) (i := i) (by omega)
        refine goAt (F := F) rfl rfl rfl rfl rfl rfl (by first | exact Int.natCast_nonneg _ | omega) (encL_at hx) rfl rfl (Nat.zero_lt_succ _) ?_
        repeat refine go1 (F := F) rfl ?_
        have hs := sizeL_mem (List.mem_of_getElem? hx)
        refine goCall [] rfl rfl rfl rfl (ih _ (List.mem_of_getElem? hx) e (by omega) (by omega)) (by repeat' first | exact ⟨by simp, _, _, _, _, rfl, (by first | rfl | (simp; done)), rfl⟩ | constructor | (simp; done)) (.inl rfl) rfl rfl ?_
        repeat refine go1 (F := F) rfl ?_
        rw [closedL_at hx] at hm
        refine goIf rfl (fun g4 => ?_) (fun g4 => ?_) <;> (try simp at g4) <;> (repeat refine go1 (F := F) rfl ?_)
        · refine goDone (F := F) rfl rfl ?_
          rw [hm, g4]; rfl
        · rw [g4] at hm
          rw [wrap64 (n := (i : Int) + 1) (by omega) (by omega)]
          refine goInv ⟨⟨i + 1, by omega, hm⟩, (by simp; omega), (Le.weak [] (by repeat' first | constructor | omega | (simp; done) | (simp; omega)) (by repeat' first | constructor | omega | (simp; done) | (simp; omega)) (by simp) (by intro i hi; first | omega | (rcases i with _ | _ | _ | i <;> first | (intro _; rfl) | omega)))⟩
      · refine goDone (F := F) rfl rfl ?_
        rw [hm, List.drop_eq_nil_of_le (by omega), closedL]

theorem c_closedF (x : Idx) (d : Int) (b : Bool) (h : ACall Try.prog 0 65 [.agg ((enc x).map (MD .st)), .int .i64 d] (hpL []) (.bool b) (hpL [])) :
    ACall Try.prog 1 98 [.agg ((enc x).map (MD .st)), .ptr 0 0] (hpL [some (.box [.int .i64 d])]) (.bool (!b)) (hpL [some (.box [.int .i64 d])]) := by
  obtain ⟨op, n, ks⟩ := x
  refine acall_go (fn := Try.f98) (by kernel_rfl) (by kernel_rfl) (by rfl) (Nat.le_of_ble_eq_true rfl) ?_
  show AGo _ _ _ _ _ ⟨8, _, _⟩
  repeat refine go1 (F := F) rfl ?_
  refine goCall [] rfl rfl rfl rfl (h) (by repeat' first | exact ⟨by simp, _, _, _, _, rfl, (by first | rfl | (simp; done)), rfl⟩ | constructor | (simp; done)) (.inl rfl) rfl rfl ?_
  repeat refine go1 (F := F) rfl ?_
  refine goDoneV (F := F) rfl rfl rfl rfl ?_ ?_
  all_goals rfl
theorem c_IndexFunc (xs : List Idx) (d : Int) (ih : ∀ x ∈ xs, ACall Try.prog 1 98 [.agg ((enc x).map (MD .st)), .ptr 0 0] (hpL [some (.box [.int .i64 d])]) (.bool (!(closedI x d))) (hpL [some (.box [.int .i64 d])])) :
    ACall Try.prog 1 123 [.sl .st (encL xs), .fn 98 [.ptr 0 0]] (hpL [some (.box [.int .i64 d])]) (.int .i64 (ixOf (fun x => !(closedI x d)) xs 0)) (hpL [some (.box [.int .i64 d])]) := by
  generalize hres : ixOf (fun x => !(closedI x d)) xs 0 = res
  refine acall_gob (fn := Try.f123) (by kernel_rfl) (by kernel_rfl) (by rfl) (Nat.le_of_ble_eq_true rfl) fun hb => ?_
  show AGo _ _ _ _ _ ⟨19, _, _⟩
  repeat refine go1 (F := F) rfl ?_
  have hl := hb.1.of_sl.1
  simp only [maxLen, encL_len] at hl
  rw [encL_len]
  refine goLoop (X := {i : Nat // i ≤ xs.length ∧ ixOf (fun x => !(closedI x d)) (xs.drop i) i = res}) (fun i => [(0, .sl .st (encL xs)), (1, .fn 98 [.ptr 0 0]), (7, .int .i64 xs.length), (8, .int .i64 i.1)]) (fun _ => [some (.box [.int .i64 d])]) (fun i => xs.length - i.1) (⟨0, by simp [hres]⟩) (Le.weak [] (by repeat' first | constructor | omega | (simp; done) | (simp; omega)) (by repeat' first | constructor | omega | (simp; done) | (simp; omega)) (by simp) (by intro i hi; first | omega | (rcases i with _ | _ | _ | i <;> first | (intro _; rfl) | omega))) ?_
  rintro ⟨i, hi, hm⟩
  simp only at hi hm ⊢
  repeat refine go1 (F := F) rfl ?_
  refine goIf rfl (fun hr => ?_) (fun hr => ?_) <;> (try simp at hr) <;> (repeat refine go1 (F := F) rfl ?_)
  · obtain ⟨⟨a, b, c⟩, hx⟩ := at_of (xs := xs) (i := i) (by omega)
    refine goAt (F := F) rfl rfl rfl rfl rfl rfl (by first | exact Int.natCast_nonneg _ | omega) (encL_at hx) rfl rfl (Nat.zero_lt_succ _) ?_
    repeat refine go1 (F := F) rfl ?_
    refine goCallRef [0] [] rfl rfl rfl rfl (ih _ (List.mem_of_getElem? hx)) (by repeat' first | exact ⟨by simp, _, _, _, _, rfl, (by first | rfl | (simp; done)), rfl⟩ | constructor | (simp; done)) (by repeat' first | exact ⟨by simp, _, _, _, _, rfl, (by first | rfl | (simp; done)), rfl⟩ | constructor | (simp; done)) rfl rfl rfl rfl rfl (.inl rfl) rfl rfl rfl ?_
    repeat refine go1 (F := F) rfl ?_
    rw [ixOf_at hx] at hm
    refine goIf rfl (fun g4 => ?_) (fun g4 => ?_) <;> (try simp at g4) <;> (repeat refine go1 (F := F) rfl ?_)
    · rw [g4] at hm
      refine goDoneV (F := F) rfl rfl rfl rfl ?_ ?_
      all_goals first | rfl | (rw [← hm]; rfl)
    · rw [g4] at hm
      rw [wrap64 (n := (i : Int) + 1) (by omega) (by omega)]
      refine goInv ⟨⟨i + 1, by omega, by simpa using hm⟩, (by simp; omega), (Le.weak [] (by repeat' first | constructor | omega | (simp; done) | (simp; omega)) (by repeat' first | constructor | omega | (simp; done) | (simp; omega)) (by simp) (by intro i hi; first | omega | (rcases i with _ | _ | _ | i <;> first | (intro _; rfl) | omega)))⟩
  · rw [List.drop_eq_nil_of_le (by omega), ixOf] at hm
    refine goDoneV (F := F) rfl rfl rfl rfl ?_ ?_
    all_goals first | rfl | (rw [← hm])
theorem c_ContainsFunc (xs : List Idx) (d : Int) (ih : ∀ x ∈ xs, ACall Try.prog 1 98 [.agg ((enc x).map (MD .st)), .ptr 0 0] (hpL [some (.box [.int .i64 d])]) (.bool (!(closedI x d))) (hpL [some (.box [.int .i64 d])])) :
    ACall Try.prog 1 97 [.sl .st (encL xs), .fn 98 [.ptr 0 0]] (hpL [some (.box [.int .i64 d])]) (.bool (xs.any fun x => !(closedI x d))) (hpL [some (.box [.int .i64 d])]) := by
  have e := (ixOf_ge (p := fun x => !(closedI x d)) xs 0 (by omega)).1
  refine acall_go (fn := Try.f97) (by kernel_rfl) (by kernel_rfl) (by rfl) (Nat.le_of_ble_eq_true rfl) ?_
  show AGo _ _ _ _ _ ⟨9, _, _⟩
  repeat refine go1 (F := F) rfl ?_
  refine goCallRef [0] [] rfl rfl rfl rfl (c_IndexFunc xs d ih) (by repeat' first | exact ⟨by simp, _, _, _, _, rfl, (by first | rfl | (simp; done)), rfl⟩ | constructor | (simp; done)) (by repeat' first | exact ⟨by simp, _, _, _, _, rfl, (by first | rfl | (simp; done)), rfl⟩ | constructor | (simp; done)) rfl rfl rfl rfl rfl (.inl rfl) rfl rfl rfl ?_
  repeat refine go1 (F := F) rfl ?_
  refine goDoneV (F := F) rfl rfl rfl rfl ?_ ?_
  all_goals first | rfl | rw [← e]
theorem closedL_any (xs : List Idx) (d : Int) : (!(xs.any fun x => !(closedI x d))) = closedL xs d := by
  induction xs with
  | nil => rfl
  | cons x xs ih => rw [closedL, ← ih]; simp
theorem rightL_mem : ∀ {xs : List Idx}, rightL xs = true → ∀ k ∈ xs, rightI k = true
  | [], _, k, hk => by simp at hk
  | x :: xs, h, k, hk => by
    rw [rightL, Bool.and_eq_true] at h
    rcases List.mem_cons.1 hk with e | e
    · rw [e]; exact h.1
    · exact rightL_mem h.2 k e
theorem right_cases {op n : Int} {ks : List Idx} (h : rightI (.mk op n ks) = true) : ((op = 1 ∨ op = 2) ∧ 0 ≤ n ∧ n ≤ 999 ∧ ks = []) ∨ (op = 3 ∧ n = 0 ∧ ks.length = 1 ∧ rightL ks = true) ∨ (op = 4 ∧ n = 0 ∧ ks.length = 2 ∧ rightL ks = true) := by
  rw [rightI] at h
  split at h
  · rename_i e; simp at h; exact .inl ⟨.inl e, h.1.1, h.1.2, h.2⟩
  · split at h
    · rename_i e; simp at h; exact .inl ⟨.inr e, h.1.1, h.1.2, h.2⟩
    · split at h
      · rename_i e
        split at h
        · simp at h
        · rename_i e2; exact .inr (.inl ⟨e, by omega, by omega, h⟩)
      · split at h
        · rename_i e
          split at h
          · simp at h
          · rename_i e2; exact .inr (.inr ⟨e, by omega, by omega, h⟩)
        · simp at h
theorem right_kids {op n : Int} {ks : List Idx} (h : rightI (.mk op n ks) = true) : ∀ k ∈ ks, rightI k = true := by
  rcases right_cases h with ⟨_, _, _, rfl⟩ | ⟨_, _, _, h⟩ | ⟨_, _, _, h⟩
  · simp
  · exact rightL_mem h
  · exact rightL_mem h
theorem right_fun {n : Int} {ks : List Idx} (h : rightI (.mk 3 n ks) = true) : ∃ k, ks = [k] := by
  rcases right_cases h with ⟨h, _⟩ | ⟨_, _, h, _⟩ | ⟨h, _⟩
  · omega
  · exact List.length_eq_one_iff.1 h
  · omega
theorem right_app {n : Int} {ks : List Idx} (h : rightI (.mk 4 n ks) = true) : ∃ k l, ks = [k, l] := by
  rcases right_cases h with ⟨h, _⟩ | ⟨h, _⟩ | ⟨_, _, h, _⟩
  · omega
  · omega
  · match ks, h with
    | [a, b], _ => exact ⟨a, b, rfl⟩
theorem c_closed : ∀ (x : Idx) (d : Int), rightI x = true → 0 ≤ d → d + sizeI x ≤ 1000000 → ACall Try.prog 0 65 [.agg ((enc x).map (MD .st)), .int .i64 d] (hpL []) (.bool (closedI x d)) (hpL []) := by
  refine Idx.rec' fun op n ks ih d hr h0 hM => ?_
  have hk := right_kids hr
  rw [closedI]
  rw [sizeI] at hM
  refine acall_go (fn := Try.f65) (by kernel_rfl) (by kernel_rfl) (by rfl) (Nat.le_of_ble_eq_true rfl) ?_
  show AGo _ _ _ _ _ ⟨27, _, _⟩
  repeat refine go1 (F := F) rfl ?_
  refine goIf rfl (fun h1 => ?_) (fun h1 => ?_) <;> (try simp at h1) <;> (repeat refine go1 (F := F) rfl ?_)
  · refine goDone (F := F) rfl rfl ?_
    rw [if_pos h1]
  · rw [if_neg h1]
    refine goIf rfl (fun h2 => ?_) (fun h2 => ?_) <;> (try simp at h2) <;> (repeat refine go1 (F := F) rfl ?_)
    · subst h2
      obtain ⟨k, rfl⟩ := right_fun hr
      rw [sizeL, sizeL] at hM
      obtain ⟨a, b, c⟩ := k
      refine goDraw ?_
      repeat first | refine dgo1 (F := F) rfl ?_ | refine dgoAlloc (F := F) rfl rfl rfl rfl rfl rfl rfl ?_
      rw [wrap64 (n := d + 1) (by have := sizeI_pos (.mk a b c); omega) (by have := sizeI_pos (.mk a b c); omega)]
      refine dgoCall [] rfl rfl rfl rfl rfl (ih (.mk a b c) (by simp) (d + 1) (hk (.mk a b c) (by simp)) (by omega) (by omega)) (by repeat' first | exact ⟨by simp, _, _, _, _, rfl, (by first | rfl | (simp; done)), rfl⟩ | constructor | (simp; done)) (.inl rfl) rfl rfl rfl ?_
      repeat first | refine dgo1 (F := F) rfl ?_ | refine dgoAlloc (F := F) rfl rfl rfl rfl rfl rfl rfl ?_
      refine dgoEnd (L := []) mixed (by kernel_rfl) (by kernel_rfl) trivial ?_
      repeat refine go1 (F := F) rfl ?_
      refine goDone (F := F) rfl rfl ?_
      simp [closedL]
    · rw [if_neg h2]
      refine goCallRef [1] [] rfl rfl rfl rfl (c_ContainsFunc ks d (fun x hx => c_closedF x d _ (ih x hx d (hk x hx) h0 (by have := sizeL_mem hx; omega)))) (by repeat' first | exact ⟨by simp, _, _, _, _, rfl, (by first | rfl | (simp; done)), rfl⟩ | constructor | (simp; done)) (by repeat' first | exact ⟨by simp, _, _, _, _, rfl, (by first | rfl | (simp; done)), rfl⟩ | constructor | (simp; done)) rfl rfl rfl rfl rfl (.inl rfl) rfl rfl rfl ?_
      repeat refine go1 (F := F) rfl ?_
      refine goDone (F := F) rfl rfl ?_
      rw [closedL_any]

def isClosed (x : Idx) : Bool := isI x && closedI x 0
theorem isI_ok {x : Idx} (h : isI x = true) : rightI x = true ∧ sizeI x ≤ 60 := by simpa [isI] using h
theorem c_specIsClosed (x : Idx) (hs : sizeI x ≤ 1000000000) : ACall Try.prog 0 25 [.agg ((enc x).map (MD .st))] (hpL []) (.bool (isClosed x)) (hpL []) := by
  obtain ⟨op, n, ks⟩ := x
  refine acall_go (fn := Try.f25) (by kernel_rfl) (by kernel_rfl) (by rfl) (Nat.le_of_ble_eq_true rfl) ?_
  show AGo _ _ _ _ _ ⟨9, _, _⟩
  repeat refine go1 (F := F) rfl ?_
  refine goCall [] rfl rfl rfl rfl (c_specIsIndexTerm (.mk op n ks) hs) (by repeat' first | exact ⟨by simp, _, _, _, _, rfl, (by first | rfl | (simp; done)), rfl⟩ | constructor | (simp; done)) (.inl rfl) rfl rfl ?_
  repeat refine go1 (F := F) rfl ?_
  refine goGuard rfl rfl rfl (fun h1 => ?_) (fun h1 => ?_) <;> (try simp at h1) <;> (repeat refine go1 (F := F) rfl ?_)
  · refine goCall [] rfl rfl rfl rfl (c_l8Closed (.mk op n ks) 0 (by omega) (by have := (isI_ok h1).2; omega)) (by repeat' first | exact ⟨by simp, _, _, _, _, rfl, (by first | rfl | (simp; done)), rfl⟩ | constructor | (simp; done)) (.inl rfl) rfl rfl ?_
    repeat refine go1 (F := F) rfl ?_
    refine goDone (F := F) rfl rfl ?_
    simp [isClosed, h1]
  · refine goDone (F := F) rfl rfl ?_
    simp [isClosed, h1]
theorem c_IsClosed (x : Idx) : ACall Try.prog 0 26 [.agg ((enc x).map (MD .st))] (hpL []) (.bool (isClosed x)) (hpL []) := by
  obtain ⟨op, n, ks⟩ := x
  refine acall_go (fn := Try.f26) (by kernel_rfl) (by kernel_rfl) (by rfl) (Nat.le_of_ble_eq_true rfl) ?_
  show AGo _ _ _ _ _ ⟨9, _, _⟩
  repeat refine go1 (F := F) rfl ?_
  refine goCall [] rfl rfl rfl rfl (c_IsIndexTerm (.mk op n ks)) (by repeat' first | exact ⟨by simp, _, _, _, _, rfl, (by first | rfl | (simp; done)), rfl⟩ | constructor | (simp; done)) (.inl rfl) rfl rfl ?_
  repeat refine go1 (F := F) rfl ?_
  refine goGuard rfl rfl rfl (fun h1 => ?_) (fun h1 => ?_) <;> (try simp at h1) <;> (repeat refine go1 (F := F) rfl ?_)
  · refine goCall [] rfl rfl rfl rfl (c_closed (.mk op n ks) 0 (isI_ok h1).1 (by omega) (by have := (isI_ok h1).2; omega)) (by repeat' first | exact ⟨by simp, _, _, _, _, rfl, (by first | rfl | (simp; done)), rfl⟩ | constructor | (simp; done)) (.inl rfl) rfl rfl ?_
    repeat refine go1 (F := F) rfl ?_
    refine goDone (F := F) rfl rfl ?_
    simp [isClosed, h1]
  · refine goDone (F := F) rfl rfl ?_
    simp [isClosed, h1]
theorem c_law6 (x : Idx) (hw : WI x 9223372036854775807) : ACall Try.prog 0 6 [.agg ((enc x).map (MD .st))] (hpL []) (.bool true) (hpL []) := by
  have s1 := a13 x hw 1048576 (by omega) (by omega)
  generalize hr1 : szI x 1048576 = r1 at s1
  have hrest : 0 ≤ r1 → sizeI x ≤ 1048577 ∧ WI x 1048576 := fun h => ⟨szI_bnd (m := 1048576) (by omega), szI_small x 1048576 _ (by omega) (by omega)⟩
  obtain ⟨op, n, ks⟩ := x
  refine acall_go (fn := Try.f6) (by kernel_rfl) (by kernel_rfl) (by rfl) (Nat.le_of_ble_eq_true rfl) ?_
  show AGo _ _ _ _ _ ⟨27, _, _⟩
  repeat refine go1 (F := F) rfl ?_
  refine goCall [] rfl rfl rfl rfl (s1) (by repeat' first | exact ⟨by simp, _, _, _, _, rfl, (by first | rfl | (simp; done)), rfl⟩ | constructor | (simp; done)) (.inl rfl) rfl rfl ?_
  repeat refine go1 (F := F) rfl ?_
  refine goIf rfl (fun h1 => ?_) (fun h1 => ?_) <;> (try simp at h1) <;> (repeat refine go1 (F := F) rfl ?_)
  · refine goDone (F := F) rfl rfl ?_
    rfl
  · obtain ⟨hs, hw'⟩ := hrest h1
    have t1 := a15 (.mk op n ks) hw' op n ks rfl
    have eq := a17 (.mk op n ks) hw' (.mk op n ks) hw'
    rw [same_refl] at eq
    refine goCall [] rfl rfl rfl rfl (t1) (by repeat' first | exact ⟨by simp, _, _, _, _, rfl, (by first | rfl | (simp; done)), rfl⟩ | constructor | (simp; done)) (.inl rfl) rfl rfl ?_
    repeat refine go1 (F := F) rfl ?_
    refine goCall [1] rfl rfl rfl rfl (c_specIsClosed (.mk op n ks) (by omega)) (by repeat' first | exact ⟨by simp, _, _, _, _, rfl, (by first | rfl | (simp; done)), rfl⟩ | constructor | (simp; done)) (.inr rfl) rfl rfl ?_
    repeat refine go1 (F := F) rfl ?_
    refine goCall [] rfl rfl rfl rfl (t1) (by repeat' first | exact ⟨by simp, _, _, _, _, rfl, (by first | rfl | (simp; done)), rfl⟩ | constructor | (simp; done)) (.inl rfl) rfl rfl ?_
    repeat refine go1 (F := F) rfl ?_
    refine goCall [2] rfl rfl rfl rfl (c_IsClosed (.mk op n ks)) (by repeat' first | exact ⟨by simp, _, _, _, _, rfl, (by first | rfl | (simp; done)), rfl⟩ | constructor | (simp; done)) (.inr rfl) rfl rfl ?_
    repeat refine go1 (F := F) rfl ?_
    refine goIf rfl (fun h3 => ?_) (fun h3 => ?_) <;> (try simp at h3) <;> (repeat refine go1 (F := F) rfl ?_)
    refine goDraw ?_
    repeat first | refine dgo1 (F := F) rfl ?_ | refine dgoAlloc (F := F) rfl rfl rfl rfl rfl rfl rfl ?_
    refine dgoCall [] rfl rfl rfl rfl rfl (t1) (by repeat' first | exact ⟨by simp, _, _, _, _, rfl, (by first | rfl | (simp; done)), rfl⟩ | constructor | (simp; done)) (.inl rfl) rfl rfl rfl ?_
    repeat first | refine dgo1 (F := F) rfl ?_ | refine dgoAlloc (F := F) rfl rfl rfl rfl rfl rfl rfl ?_
    refine dgoCall [2, 4] rfl rfl rfl rfl rfl (eq) (by repeat' first | exact ⟨by simp, _, _, _, _, rfl, (by first | rfl | (simp; done)), rfl⟩ | constructor | (simp; done)) (.inr rfl) rfl rfl rfl ?_
    repeat first | refine dgo1 (F := F) rfl ?_ | refine dgoAlloc (F := F) rfl rfl rfl rfl rfl rfl rfl ?_
    refine dgoEndQ (F := F) mixed [(0, 3)] (by kernel_rfl) (by kernel_rfl) (by kernel_rfl) ?_
    repeat refine go1 (F := F) rfl ?_
    refine goDone (F := F) rfl rfl ?_
    rfl
end Go.Proofs.Ix
