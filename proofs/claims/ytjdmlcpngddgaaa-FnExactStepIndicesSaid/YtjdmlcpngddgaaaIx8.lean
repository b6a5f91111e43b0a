/- Part of a proof over the seat Ytjdmlcpngddgaaa: what the text lends is said at its theorems. -/
import Derived.Test.YtjdmlcpngddgaaaIx7
set_option linter.unusedVariables false
set_option linter.unusedSimpArgs false
set_option maxRecDepth 20000
namespace Go.Proofs.Ix
open Go Go.Al Go.Proofs
open Go.Proofs.Tst (Idx Idx.rec' enc encL encL_len encL_at encL_map F rightI rightL rightL_at sizeI sizeL sizeI_pos sizeL_nn sizeL_mem isI c_specIsIndexTerm c_IsIndexTerm ab_idx mixed a13 a15 a17 szI WI szI_bnd szI_small same_refl)

mutual
def mkI : Idx → Int → Idx × Int
  | .mk _ _ ks, k => (.mk k (k + 1) (mkL ks (k + 2)).1, (mkL ks (k + 2)).2)
def mkL : List Idx → Int → List Idx × Int
  | [], k => ([], k)
  | x :: xs, k => ((mkI x k).1 :: (mkL xs (mkI x k).2).1, (mkL xs (mkI x k).2).2)
end
mutual
theorem mkI_ok : ∀ (x : Idx) (k : Int), (mkI x k).2 = k + 2 * sizeI x
  | .mk _ _ ks, k => by rw [mkI, sizeI]; have := (mkL_ok ks (k + 2)).1; simp only; omega
theorem mkL_ok : ∀ (xs : List Idx) (k : Int), (mkL xs k).2 = k + 2 * sizeL xs ∧ (mkL xs k).1.length = xs.length
  | [], k => by simp [mkL, sizeL]
  | x :: xs, k => by
    rw [mkL, sizeL]
    have h1 := mkI_ok x k
    have h2 := mkL_ok xs (mkI x k).2
    simp only [List.length_cons]
    exact ⟨by omega, by omega⟩
end
theorem encL_app (xs ys : List Idx) : encL (xs ++ ys) = encL xs ++ encL ys := by simp [encL_map]
theorem encL_mem {xs : List Idx} {cs : List D} (h : cs ∈ encL xs) : cs.length = 3 := by
  rw [encL_map] at h
  obtain ⟨⟨a, b, c⟩, _, rfl⟩ := List.mem_map.1 h
  rfl

def MC (ks : List Idx) : Prop := ∀ (k : Int) (v e : Nat), (∀ cs ∈ encL ks, cs.length = e) → 0 < e → 0 ≤ k → k + 2 * sizeL ks ≤ 1099511627776 →
    ACall Try.prog 1 75 [.row 0 (encL ks).length, .int .i64 k] (hpL [some (.row true v e (encL ks))]) (.int .i64 (mkL ks k).2) (hpL [some (.row true (v + 3 * ks.length) e (encL (mkL ks k).1))])
theorem c_markIndexS : ∀ x : Idx, ∀ op n ks, x = .mk op n ks → MC ks := by
  refine Idx.rec' fun op n ks ih op' n' ks' e => ?_
  cases e
  intro k v e he h0e h0 hM
  have hnn := sizeL_nn ks
  refine acall_go (fn := Try.f75) (by kernel_rfl) (by kernel_rfl) (by rfl) (Nat.le_of_ble_eq_true rfl) ?_
  show AGo _ _ _ _ _ ⟨34, _, _⟩
  repeat refine go1 (F := F) rfl ?_
  have hel := encL_len ks
  rw [hel]
  refine goLoop (X := {p : List Idx × Int // p.1.length ≤ ks.length ∧ mkL ks k = (p.1 ++ (mkL (ks.drop p.1.length) p.2).1, (mkL (ks.drop p.1.length) p.2).2) ∧ 0 ≤ p.2 ∧ p.2 + 2 * sizeL (ks.drop p.1.length) ≤ 1099511627776}) (fun p => [(0, .row 0 ks.length), (1, .int .i64 p.1.2), (5, .int .i64 p.1.1.length)]) (fun p => [some (.row true (v + 3 * p.1.1.length) e (encL (p.1.1 ++ ks.drop p.1.1.length)))]) (fun p => ks.length - p.1.1.length) (⟨([], k), by simp; omega⟩) (Le.weak [] (by repeat' first | constructor | omega | (simp; done) | (simp; omega)) (by repeat' first | constructor | omega | (simp; done) | (simp; omega)) (by simp) (by intro i hi; first | omega | (rcases i with _ | _ | _ | i <;> first | (intro _; rfl) | omega))) ?_
  rintro ⟨⟨pre, kk⟩, hi, hmk, hk0, hkM⟩
  simp only at hi hmk hk0 hkM ⊢
  obtain ⟨i, hie⟩ : ∃ i, i = pre.length := ⟨_, rfl⟩
  rw [← hie] at hi hmk hkM ⊢
  have hml : (encL (pre ++ ks.drop i)).length = ks.length := by rw [encL_len]; simp; omega
  have hbig : ks.length ≤ 1099511627776 := by
    have : ∀ xs : List Idx, (xs.length : Int) ≤ sizeL xs := fun xs => by
      induction xs with
      | nil => simp [sizeL]
      | cons x xs ih => rw [sizeL]; have := sizeI_pos x; simp; omega
    have := this ks; omega
  repeat refine go1 (F := F) rfl ?_
  refine goEv (F := F) rfl rfl (evQ_len rfl rfl rfl (hml) rfl) ?_
  repeat refine go1 (F := F) rfl ?_
  refine goIf rfl (fun hq => ?_) (fun hq => ?_) <;> (try simp at hq) <;> (repeat refine go1 (F := F) rfl ?_)
  · obtain ⟨x, hx⟩ := at_of (xs := ks) (i := i) (by omega)
    have hdr := drop_cons hx
    have ihx := ih x (List.mem_of_getElem? hx)
    rw [hdr, sizeL] at hkM
    obtain ⟨a, b, c⟩ := x
    rw [sizeI] at hkM
    have hcn := sizeL_nn c
    have hdn := sizeL_nn (ks.drop (i + 1))
    have hmc := ihx a b c rfl
    have he3 : e = 3 := (he _ (List.mem_of_getElem? (encL_at hx))).symm.trans rfl
    subst he3
    have hat : (encL (pre ++ ks.drop i))[i]? = some (enc (.mk a b c)) := encL_at (by rw [List.getElem?_append_right (by omega), hie, Nat.sub_self, ← hie, hdr]; rfl)
    refine goRowAt (F := F) rfl rfl rfl rfl rfl rfl (hml) (by omega) (by first | omega | (simp; omega)) rfl rfl ?_
    repeat refine go1 (F := F) rfl ?_
    refine goEv (F := F) rfl rfl (evQ_fdR rfl rfl rfl (hml) rfl rfl) ?_
    repeat refine go1 (F := F) rfl ?_
    refine goStoreRow (F := F) rfl rfl rfl rfl rfl (hml) rfl rfl (ds := [.int .i64 kk]) (is := []) rfl (by simp) (by simp) (el := enc (.mk a b c)) (hat) (Nat.le_of_ble_eq_true rfl) rfl ?_
    repeat refine go1 (F := F) rfl ?_
    rw [wrap64 (n := kk + 1) (by omega) (by omega)]
    simp only [Int.toNat_natCast]
    refine goRowAt (F := F) rfl rfl rfl rfl rfl rfl (by simp [hml]) (by omega) (by first | omega | (simp; omega)) rfl rfl ?_
    repeat refine go1 (F := F) rfl ?_
    refine goEv (F := F) rfl rfl (evQ_fdR rfl rfl rfl (by simp [hml]) rfl rfl) ?_
    repeat refine go1 (F := F) rfl ?_
    refine goStoreRow (F := F) rfl rfl rfl rfl rfl (by simp [hml]) rfl rfl (ds := [.int .i64 (kk + 1)]) (is := []) rfl (by simp) (by simp) (el := [.int .i64 kk, .int .i64 b, .sl (encL c)]) (List.getElem?_set_self (by rw [hml]; omega)) (Nat.le_of_ble_eq_true rfl) rfl ?_
    repeat refine go1 (F := F) rfl ?_
    rw [wrap64 (n := kk + 1 + 1) (by omega) (by omega)]
    simp only [Int.toNat_natCast]
    refine goRowAt (F := F) rfl rfl rfl rfl rfl rfl (by simp [hml]) (by omega) (by first | omega | (simp; omega)) rfl rfl ?_
    repeat refine go1 (F := F) rfl ?_
    refine goEv (F := F) rfl rfl (evQ_fdR rfl rfl rfl (by simp [hml]) rfl rfl) ?_
    repeat refine go1 (F := F) rfl ?_
    refine goCel (F := F) rfl rfl rfl rfl rfl (by simp [hml]) (el := [.int .i64 kk, .int .i64 (kk + 1), .sl (encL c)]) (by simp only [Int.toNat_natCast]; exact List.getElem?_set_self (by simp [hml]; omega)) rfl rfl rfl ?_
    repeat refine go1 (F := F) rfl ?_
    rw [show kk + 1 + 1 = kk + 2 by omega]
    have hk2 := mkL_ok c (kk + 2)
    refine goNest rfl rfl rfl rfl rfl rfl rfl rfl (by simp [hml]) (el := [.int .i64 kk, .int .i64 (kk + 1), .sl (encL c)]) (by simp only [Int.toNat_natCast]; exact List.getElem?_set_self (by simp [hml]; omega)) (Nat.le_of_ble_eq_true rfl) rfl (ys' := encL (mkL c (kk + 2)).1) (by rw [encL_len, encL_len]; exact hk2.2) (fun e' he' h0' => hmc (kk + 2) 0 e' he' h0' (by omega) (by omega)) rfl ?_
    repeat refine go1 (F := F) rfl ?_
    rw [wrap64 (n := (i : Int) + 1) (by omega) (by omega)]
    simp only [Int.toNat_natCast]
    have hEQ : ∀ z1 z2 z3 : List D, z3 = enc (.mk kk (kk + 1) (mkL c (kk + 2)).1) → (((encL (pre ++ ks.drop i)).set i z1).set i z2).set i z3 = encL ((pre ++ [.mk kk (kk + 1) (mkL c (kk + 2)).1]) ++ ks.drop (i + 1)) := fun z1 z2 z3 hz => by
      rw [List.set_set, List.set_set, hdr, encL_app, encL, List.set_append_right _ _ (by rw [encL_len]; omega), encL_len, hie, Nat.sub_self, hz, encL_app, encL_app]
      simp [encL]
    have hmk2 : mkL ks k = ((pre ++ [.mk kk (kk + 1) (mkL c (kk + 2)).1]) ++ (mkL (ks.drop (i + 1)) (mkL c (kk + 2)).2).1, (mkL (ks.drop (i + 1)) (mkL c (kk + 2)).2).2) := by
      rw [hmk, hdr, mkL, mkI]; simp
    refine goInv ⟨⟨(pre ++ [.mk kk (kk + 1) (mkL c (kk + 2)).1], (mkL c (kk + 2)).2), ?_⟩, ?_, Le.weak [] ?_ ?_ (by simp) ?_⟩
    · have hl : (pre ++ [Idx.mk kk (kk + 1) (mkL c (kk + 2)).1]).length = i + 1 := by simp [hie]
      simp only [hl]
      exact ⟨by omega, hmk2, by omega, by omega⟩
    · simp only [List.length_append, List.length_singleton]; omega
    · have hl : (pre ++ [Idx.mk kk (kk + 1) (mkL c (kk + 2)).1]).length = i + 1 := by simp [hie]
      simp only [hl]
      repeat' constructor
    · have hl : (pre ++ [Idx.mk kk (kk + 1) (mkL c (kk + 2)).1]).length = i + 1 := by simp [hie]
      simp only [hl]
      refine ⟨⟨rfl, by omega, rfl, ?_⟩, trivial⟩
      exact hEQ _ _ _ rfl
    · intro j hj; rcases j with _ | j
      · intro _; rfl
      · omega
  · have hi2 : i = ks.length := by omega
    rw [hi2, List.drop_eq_nil_of_le (Nat.le_refl _)] at hmk ⊢
    rw [mkL] at hmk
    simp only [List.append_nil] at hmk ⊢
    rw [hmk]
    refine goDoneV (F := F) rfl rfl rfl rfl ?_ ?_
    all_goals rfl
theorem c_markIndex (op n : Int) (ks : List Idx) (k : Int) (v : Nat) (h0 : 0 ≤ k) (hM : k + 2 * sizeL ks ≤ 1099511627776) :
    ACall Try.prog 1 35 [.agg [.int .i64 op, .int .i64 n, .row 0 (encL ks).length], .int .i64 k] (hpL [some (.row true v 3 (encL ks))]) (.int .i64 (mkL ks k).2) (hpL [some (.row true (v + 3 * ks.length) 3 (encL (mkL ks k).1))]) := by
  have hc := c_markIndexS (.mk op n ks) op n ks rfl k v 3 (fun _ h => encL_mem h) (by omega) h0 hM
  refine acall_go (fn := Try.f35) (by kernel_rfl) (by kernel_rfl) (by rfl) (Nat.le_of_ble_eq_true rfl) ?_
  show AGo _ _ _ _ _ ⟨10, _, _⟩
  repeat refine go1 (F := F) rfl ?_
  refine goCallRef [0] [] rfl rfl rfl rfl (hc) (by repeat' first | exact ⟨by simp, _, _, _, _, rfl, (by first | rfl | (simp; done)), rfl⟩ | constructor | (simp; done)) (by repeat' first | exact ⟨by simp, _, _, _, _, rfl, (by first | rfl | (simp; done)), rfl⟩ | constructor | (simp; done)) rfl rfl rfl rfl rfl (.inl rfl) rfl rfl rfl ?_
  repeat refine go1 (F := F) rfl ?_
  refine goDoneV (F := F) rfl rfl rfl rfl ?_ ?_
  all_goals rfl
def HC' (ks : List Idx) : Prop := ∀ (k : Int), 0 ≤ k → k + 2 * sizeL ks ≤ 1099511627776 →
    ACall Try.prog 0 76 [.sl .st (encL (mkL ks k).1), .int .i64 k] (hpL []) (.int .i64 (mkL ks k).2) (hpL [])
theorem c_heldIndexS : ∀ x : Idx, ∀ op n ks, x = .mk op n ks → HC' ks := by
  refine Idx.rec' fun op n ks ih op' n' ks' e => ?_
  cases e
  intro k h0 hM
  have hnn := sizeL_nn ks
  obtain ⟨h2, hlen⟩ := mkL_ok ks k
  obtain ⟨ys, hys⟩ : ∃ ys, ys = (mkL ks k).1 := ⟨_, rfl⟩
  rw [← hys] at hlen ⊢
  generalize hres : (mkL ks k).2 = res
  have hbig : ks.length ≤ 1099511627776 := by
    have : ∀ xs : List Idx, (xs.length : Int) ≤ sizeL xs := fun xs => by
      induction xs with
      | nil => simp [sizeL]
      | cons x xs ih => rw [sizeL]; have := sizeI_pos x; simp; omega
    have := this ks; omega
  refine acall_go (fn := Try.f76) (by kernel_rfl) (by kernel_rfl) (by rfl) (Nat.le_of_ble_eq_true rfl) ?_
  show AGo _ _ _ _ _ ⟨40, _, _⟩
  repeat refine go1 (F := F) rfl ?_
  have hel := encL_len ys
  refine goLoop (X := {p : Nat × Int // p.1 ≤ ks.length ∧ (mkL (ks.drop p.1) p.2).1 = ys.drop p.1 ∧ (mkL (ks.drop p.1) p.2).2 = res ∧ 0 ≤ p.2 ∧ p.2 + 2 * sizeL (ks.drop p.1) ≤ 1099511627776}) (fun p => [(0, .sl .st (encL ys)), (1, .int .i64 p.1.2), (5, .int .i64 p.1.1)]) (fun _ => []) (fun p => ks.length - p.1.1) (⟨(0, k), by simp only [List.drop_zero]; exact ⟨by omega, hys.symm, hres, h0, hM⟩⟩) (Le.weak [] (by repeat' first | constructor | omega | (simp; done) | (simp; omega)) (by repeat' first | constructor | omega | (simp; done) | (simp; omega)) (by simp) (by intro i hi; first | omega | (rcases i with _ | _ | _ | i <;> first | (intro _; rfl) | omega))) ?_
  rintro ⟨⟨i, kk⟩, hi, hm1, hm2, hk0, hkM⟩
  simp only at hi hm1 hm2 hk0 hkM ⊢
  repeat refine go1 (F := F) rfl ?_
  rw [encL_len]
  refine goIf rfl (fun hq => ?_) (fun hq => ?_) <;> (try simp at hq) <;> (repeat refine go1 (F := F) rfl ?_)
  · obtain ⟨x, hx⟩ := at_of (xs := ks) (i := i) (by omega)
    have hdr := drop_cons hx
    have ihx := ih x (List.mem_of_getElem? hx)
    rw [hdr] at hm1 hm2 hkM
    obtain ⟨a, b, c⟩ := x
    rw [sizeL, sizeI] at hkM
    rw [mkL, mkI] at hm1 hm2
    simp only at hm1 hm2
    have hcn := sizeL_nn c
    have hdn := sizeL_nn (ks.drop (i + 1))
    have hmc := ihx a b c rfl (kk + 2) (by omega) (by omega)
    have hk2 := (mkL_ok c (kk + 2)).1
    have hyi : ys[i]? = some (.mk kk (kk + 1) (mkL c (kk + 2)).1) := by
      have : (ys.drop i)[0]? = some (.mk kk (kk + 1) (mkL c (kk + 2)).1) := by rw [← hm1]; rfl
      simpa using this
    have hyd : (mkL (ks.drop (i + 1)) (mkL c (kk + 2)).2).1 = ys.drop (i + 1) := by
      have h := drop_cons hyi
      rw [h] at hm1
      exact (List.cons.inj hm1).2
    refine goAt (F := F) rfl rfl rfl rfl rfl rfl (by first | exact Int.natCast_nonneg _ | omega) (encL_at hyi) rfl rfl (Nat.zero_lt_succ _) ?_
    repeat refine go1 (F := F) rfl ?_
    refine goIf rfl (fun h3 => ?_) (fun h3 => ?_)
    · simp at h3
    repeat refine go1 (F := F) rfl ?_
    rw [wrap64 (n := kk + 1) (by omega) (by omega)]
    refine goAt (F := F) rfl rfl rfl rfl rfl rfl (by first | exact Int.natCast_nonneg _ | omega) (encL_at hyi) rfl rfl (Nat.zero_lt_succ _) ?_
    repeat refine go1 (F := F) rfl ?_
    refine goIf rfl (fun h4 => ?_) (fun h4 => ?_)
    · simp at h4
    repeat refine go1 (F := F) rfl ?_
    rw [wrap64 (n := kk + 1 + 1) (by omega) (by omega), show kk + 1 + 1 = kk + 2 by omega]
    refine goAt (F := F) rfl rfl rfl rfl rfl rfl (by first | exact Int.natCast_nonneg _ | omega) (encL_at hyi) rfl rfl (Nat.zero_lt_succ _) ?_
    repeat refine go1 (F := F) rfl ?_
    refine goCall [] rfl rfl rfl rfl (hmc) (by repeat' first | exact ⟨by simp, _, _, _, _, rfl, (by first | rfl | (simp; done)), rfl⟩ | constructor | (simp; done)) (.inl rfl) rfl rfl ?_
    repeat refine go1 (F := F) rfl ?_
    refine goIf rfl (fun h5 => ?_) (fun h5 => ?_) <;> (try simp at h5) <;> (repeat refine go1 (F := F) rfl ?_)
    · omega
    · rw [wrap64 (n := (i : Int) + 1) (by omega) (by omega)]
      refine goInv ⟨⟨(i + 1, (mkL c (kk + 2)).2), by simp only; exact ⟨by omega, hyd, hm2, by omega, by omega⟩⟩, (by simp; omega), (Le.weak [] (by repeat' first | constructor | omega | (simp; done) | (simp; omega)) (by repeat' first | constructor | omega | (simp; done) | (simp; omega)) (by simp) (by intro i hi; first | omega | (rcases i with _ | _ | _ | i <;> first | (intro _; rfl) | omega)))⟩
  · rw [List.drop_eq_nil_of_le (by omega), mkL] at hm2
    refine goDone (F := F) rfl rfl ?_
    rw [← hm2]
theorem c_heldIndex (op n : Int) (ks : List Idx) (k : Int) (h0 : 0 ≤ k) (hM : k + 2 * sizeL ks ≤ 1099511627776) :
    ACall Try.prog 0 36 [.agg [.int .i64 op, .int .i64 n, .sl .st (encL (mkL ks k).1)], .int .i64 k] (hpL []) (.int .i64 (mkL ks k).2) (hpL []) := by
  have hc := c_heldIndexS (.mk op n ks) op n ks rfl k h0 hM
  have h2 := (mkL_ok ks k).1
  have h3 := sizeL_nn ks
  refine acall_go (fn := Try.f36) (by kernel_rfl) (by kernel_rfl) (by rfl) (Nat.le_of_ble_eq_true rfl) ?_
  show AGo _ _ _ _ _ ⟨12, _, _⟩
  repeat refine go1 (F := F) rfl ?_
  refine goCall [] rfl rfl rfl rfl (hc) (by repeat' first | exact ⟨by simp, _, _, _, _, rfl, (by first | rfl | (simp; done)), rfl⟩ | constructor | (simp; done)) (.inl rfl) rfl rfl ?_
  repeat refine go1 (F := F) rfl ?_
  refine goIf rfl (fun h5 => ?_) (fun h5 => ?_) <;> (try simp at h5) <;> (repeat refine go1 (F := F) rfl ?_)
  · omega
  · refine goDone (F := F) rfl rfl ?_
    rfl
end Go.Proofs.Ix
