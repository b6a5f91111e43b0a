/- Part of a proof over the seat Ytjdmlcpngddgaaa: what the text lends is said at its theorems. -/
import Derived.Test.YtjdmlcpngddgaaaTstB
namespace Go.Proofs.Tst
open Go Go.Al Go.Proofs

theorem mixed : Try.prog.follows .mixedOrders = true := by kernel_rfl

-- l8Same
mutual
def sameI : Idx → Idx → Bool
  | .mk op n ks, .mk op' n' ks' => op == op' && n == n' && ks.length == ks'.length && sameL ks ks'
def sameL : List Idx → List Idx → Bool
  | x :: xs, y :: ys => sameI x y && sameL xs ys
  | _, _ => true
end

theorem c49 {op n op' n' : Int} {ks ks' : List Idx} (hl : ks.length ≤ 1048576) (hl' : ks'.length ≤ 1048576)
    (ih : ∀ (i : Nat) (x y : Idx), ks[i]? = some x → ks'[i]? = some y → ACall Try.prog 0 49 [.agg ((enc x).map (MD .st)), .agg ((enc y).map (MD .st))] (hpL []) (.bool (sameI x y)) (hpL [])) :
    ACall Try.prog 0 49 [.agg ((enc (.mk op n ks)).map (MD .st)), .agg ((enc (.mk op' n' ks')).map (MD .st))] (hpL []) (.bool (sameI (.mk op n ks) (.mk op' n' ks'))) (hpL []) := by
  refine acall_go (fn := Try.f49) (by kernel_rfl) (by kernel_rfl) (by rfl) (Nat.le_of_ble_eq_true rfl) ?_
  show AGo _ _ _ _ _ ⟨46, _, _⟩
  repeat refine go1 (F := F) rfl ?_
  refine goGuard rfl rfl rfl (fun h1 => ?_) (fun h1 => ?_)
  · -- unlike at once
    simp at h1
    repeat refine go1 (F := F) rfl ?_
    refine goDone (F := F) rfl rfl ?_
    simp [sameI, h1]
  · simp at h1
    repeat refine go1 (F := F) rfl ?_
    refine goGuard rfl rfl rfl (fun h2 => ?_) (fun h2 => ?_)
    · simp at h2
      repeat refine go1 (F := F) rfl ?_
      refine goDone (F := F) rfl rfl ?_
      simp [sameI, h2]
    · simp at h2
      repeat refine go1 (F := F) rfl ?_
      rw [encL_len, encL_len]
      refine goIf rfl (fun h3 => ?_) (fun h3 => ?_)
      · simp at h3
        repeat refine go1 (F := F) rfl ?_
        refine goDone (F := F) rfl rfl ?_
        simp [sameI]; omega
      · simp at h3
        repeat refine go1 (F := F) rfl ?_
        rw [encL_len]
        refine goLoop (X := {i : Nat // i ≤ ks.length ∧ sameL ks ks' = sameL (ks.drop i) (ks'.drop i)}) (fun i => [(2, .ptr 0 0), (3, .ptr 1 0), (29, .int .i64 ks.length), (30, .int .i64 i.1)])
          (fun _ => [some (.box [.int .i64 op, .int .i64 n, .sl .st (encL ks)]), some (.box [.int .i64 op', .int .i64 n', .sl .st (encL ks')])]) (fun i => ks.length - i.1) ⟨0, Nat.zero_le _, rfl⟩ ?_ ?_
        · refine Le.weak [] ?_ ?_ (by simp) (by omega)
          · repeat' constructor
          · repeat' constructor
        · rintro ⟨i, hi, hs⟩
          simp only at hi hs ⊢
          repeat refine go1 (F := F) rfl ?_
          refine goIf rfl (fun hr => ?_) (fun hr => ?_)
          · simp only [decide_eq_true_eq] at hr
            have hil : i < ks.length := by omega
            obtain ⟨⟨a1, b1, c1⟩, hx⟩ : ∃ x, ks[i]? = some x := ⟨_, List.getElem?_eq_getElem hil⟩
            obtain ⟨⟨a2, b2, c2⟩, hy⟩ : ∃ x, ks'[i]? = some x := ⟨_, List.getElem?_eq_getElem (by omega)⟩
            have hd : ks.drop i = .mk a1 b1 c1 :: ks.drop (i + 1) := by rw [List.drop_eq_getElem_cons hil]; congr 1; rw [List.getElem?_eq_getElem hil] at hx; exact Option.some.inj hx
            have hd' : ks'.drop i = .mk a2 b2 c2 :: ks'.drop (i + 1) := by
              have hil' : i < ks'.length := by omega
              rw [List.drop_eq_getElem_cons hil']; congr 1; rw [List.getElem?_eq_getElem hil'] at hy; exact Option.some.inj hy
            repeat refine go1 (F := F) rfl ?_
            refine goDraw ?_
            repeat refine dgo1 (F := F) rfl ?_
            refine dgoAt (F := F) rfl rfl rfl rfl rfl rfl rfl (by omega) (encL_at hx) rfl rfl (Nat.zero_lt_succ _) ?_
            repeat refine dgo1 (F := F) rfl ?_
            refine dgoAt (F := F) rfl rfl rfl rfl rfl rfl rfl (by omega) (encL_at hy) rfl rfl (Nat.zero_lt_succ _) ?_
            repeat refine dgo1 (F := F) rfl ?_
            refine dgoCall [] rfl rfl rfl rfl rfl (ih i _ _ hx hy) (by repeat' constructor) (.inl rfl) rfl rfl rfl ?_
            repeat refine dgo1 (F := F) rfl ?_
            refine dgoEnd (L := []) mixed (by kernel_rfl) (by kernel_rfl) trivial ?_
            refine goIf rfl (fun h4 => ?_) (fun h4 => ?_)
            · simp at h4
              repeat refine go1 (F := F) rfl ?_
              refine goDone (F := F) rfl rfl ?_
              rw [sameI, hs, hd, hd', sameL, h4]; simp
            · simp at h4
              repeat refine go1 (F := F) rfl ?_
              rw [wrap64 (n := (i : Int) + 1) (by omega) (by omega)]
              refine goInv ⟨⟨i + 1, by omega, by rw [hs, hd, hd', sameL, h4]; rfl⟩, (by show ks.length - (i + 1) < ks.length - i; omega), Le.weak [] ?_ ?_ (by simp) (by omega)⟩
              · repeat' constructor
              · repeat' constructor
          · simp only [decide_eq_false_iff_not] at hr
            repeat refine go1 (F := F) rfl ?_
            refine goDone (F := F) rfl rfl ?_
            have e1 : ks.drop i = [] := List.drop_eq_nil_of_le (by omega)
            simp [sameI, h1, h2, hs, e1, sameL]; omega

-- toIndexS
theorem c50 {xs : List Idx} (hx : xs.length ≤ 1048576) (ih : ∀ x ∈ xs, ACall Try.prog 0 15 [.agg ((enc x).map (MD .st))] (hpL []) (match enc x with | [a, b, .sl c] => .agg [MD .st a, MD .st b, .sl (.inn 3) c] | _ => .any) (hpL [])) :
    ACall Try.prog 0 50 [.sl .st (encL xs)] (hpL []) (.sl (.inn 3) (encL xs)) (hpL []) := by
  refine acall_go (fn := Try.f50) (by kernel_rfl) (by kernel_rfl) (by rfl) (Nat.le_of_ble_eq_true rfl) ?_
  show AGo _ _ _ _ _ ⟨23, _, _⟩
  repeat refine go1 (F := F) rfl ?_
  rw [encL_len]
  refine goMake (F := F) rfl rfl rfl rfl rfl (by omega) (by omega) rfl rfl rfl (Nat.le_of_ble_eq_true rfl) rfl rfl (Nat.zero_lt_succ _) rfl rfl rfl ?_
  repeat refine go1 (F := F) rfl ?_
  let z : List D := [.int .i64 0, .int .i64 0, .sl []]
  refine goLoop (X := {i : Nat // i ≤ xs.length}) (fun i => [(0, .sl .st (encL xs)), (3, .row 0 xs.length), (4, .int .i64 i.1)]) (fun i => [some (.row true (1 + i.1) 3 ((encL xs).take i.1 ++ List.replicate (xs.length - i.1) z))]) (fun i => xs.length - i.1) ⟨0, Nat.zero_le _⟩ ?_ ?_
  · refine Le.weak [] ?_ ?_ (by simp) (by omega)
    · repeat' constructor
    · repeat' constructor
  · rintro ⟨i, hi⟩
    simp only at hi ⊢
    repeat refine go1 (F := F) rfl ?_
    rw [encL_len]
    refine goIf rfl (fun hr => ?_) (fun hr => ?_)
    · simp only [decide_eq_true_eq] at hr
      have hil : i < xs.length := by omega
      obtain ⟨⟨op, a, kids⟩, hx'⟩ : ∃ x, xs[i]? = some x := ⟨_, List.getElem?_eq_getElem hil⟩
      repeat refine go1 (F := F) rfl ?_
      refine goAt (F := F) rfl rfl rfl rfl rfl rfl (by omega) (encL_at hx') rfl rfl (Nat.zero_lt_succ _) ?_
      repeat refine go1 (F := F) rfl ?_
      have hc := ih _ (List.mem_of_getElem? hx')
      refine goCall [] rfl rfl rfl rfl hc (by repeat' constructor) (.inl rfl) rfl rfl ?_
      refine goRowAt (F := F) rfl rfl rfl rfl rfl rfl (by simp [encL_len]; omega) (by omega) (by simp; omega) rfl rfl ?_
      refine goStoreRow (F := F) rfl rfl rfl rfl rfl (by simp [encL_len]; omega) rfl rfl (ds := [.int .i64 op, .int .i64 a, .sl (encL kids)]) (is := [1]) (by simp [lows, low, hpL]) (by simp) (by simp) (el := z) ?_ (Nat.le_of_ble_eq_true rfl) rfl ?_
      · rw [List.getElem?_append_right (by simp [encL_len]; omega)]
        simp [encL_len, List.getElem?_replicate]; omega
      · repeat refine go1 (F := F) rfl ?_
        rw [wrap64 (n := (i : Int) + 1) (by omega) (by omega)]
        refine goInv ⟨⟨i + 1, by omega⟩, (by show xs.length - (i + 1) < xs.length - i; omega), Le.weak [] ?_ ?_ (by simp) (by omega)⟩
        · repeat' constructor
        · have hset : (List.take i (encL xs) ++ List.replicate (xs.length - i) z).set i [.int .i64 op, .int .i64 a, .sl (encL kids)] = List.take (i + 1) (encL xs) ++ List.replicate (xs.length - (i + 1)) z := by
            have h1 : (encL xs)[i]? = some [.int .i64 op, .int .i64 a, .sl (encL kids)] := encL_at hx'
            rw [List.take_add_one, h1, List.set_append_right _ _ (by simp [encL_len]; omega)]
            have h2 : i - (List.take i (encL xs)).length = 0 := by simp [encL_len]; omega
            rw [h2, show xs.length - i = (xs.length - (i + 1)) + 1 by omega, List.replicate_succ]
            simp
          refine ⟨⟨rfl, (by show 1 + i + 1 = 1 + (i + 1); omega), rfl, ?_⟩, ?_⟩
          · exact hset
          · trivial
    · simp only [decide_eq_false_iff_not] at hr
      have : i = xs.length := by omega
      subst this
      repeat refine go1 (F := F) rfl ?_
      refine goFin (F := F) rfl ?_ ?_ ?_
      · have : List.take xs.length (encL xs) = encL xs := List.take_of_length_le (by simp [encL_len])
        simp [expOkT, expOkA, expOk, hpL, encL_len, this]
      · simp [expET, expEA, expE1]
      · simp [expGT, expGA, expG1]

theorem c15 {op m : Int} {kids : List Idx} (h50 : ACall Try.prog 0 50 [.sl .st (encL kids)] (hpL []) (.sl (.inn 3) (encL kids)) (hpL [])) :
    ACall Try.prog 0 15 [.agg ((enc (.mk op m kids)).map (MD .st))] (hpL []) (.agg [.int .i64 op, .int .i64 m, .sl (.inn 3) (encL kids)]) (hpL []) := by
  refine acall_go (fn := Try.f15) (by kernel_rfl) (by kernel_rfl) (by rfl) (Nat.le_of_ble_eq_true rfl) ?_
  show AGo _ _ _ _ _ ⟨15, _, _⟩
  repeat refine go1 (F := F) rfl ?_
  refine goCall [] rfl rfl rfl rfl h50 (by repeat' constructor) (.inl rfl) rfl rfl ?_
  repeat refine go1 (F := F) rfl ?_

  refine goFin (F := F) rfl ?_ ?_ ?_
  · simp [expOkT, expOkA, expOks, expOk, hpL]
  · simp [expET, expEA, expEs, expE1]
  · simp [expGT, expGA, expGs, expG1]

theorem c14 {x y : Idx} {b : Bool} (h49 : ACall Try.prog 0 49 [.agg ((enc x).map (MD .st)), .agg ((enc y).map (MD .st))] (hpL []) (.bool b) (hpL [])) :
    ACall Try.prog 0 14 [.agg ((enc x).map (MD .st)), .agg ((enc y).map (MD .st))] (hpL []) (.bool b) (hpL []) := by
  obtain ⟨op, n, ks⟩ := x
  obtain ⟨op', n', ks'⟩ := y
  refine acall_go (fn := Try.f14) (by kernel_rfl) (by kernel_rfl) (by rfl) (Nat.le_of_ble_eq_true rfl) ?_
  show AGo _ _ _ _ _ ⟨8, _, _⟩
  repeat refine go1 (F := F) rfl ?_
  refine goCall [] rfl rfl rfl rfl h49 (by repeat' constructor) (.inl rfl) rfl rfl ?_
  repeat refine go1 (F := F) rfl ?_
  exact goDone (F := F) rfl rfl rfl
end Go.Proofs.Tst
