/- Part of a proof over the seat Ytjdmlcpngddgaaa: what the text lends is said at its theorems. -/
import Derived.Test.YtjdmlcpngddgaaaTstC
namespace Go.Proofs.Tst
open Go Go.Al Go.Proofs

theorem drop_at {xs : List Idx} {i : Nat} {x : Idx} (h : xs[i]? = some x) : xs.drop i = x :: xs.drop (i + 1) := by
  obtain ⟨hi, rfl⟩ := List.getElem?_eq_some_iff.1 h
  exact List.drop_eq_getElem_cons hi

/-- slices.EqualFunc over two lists of terms. -/
theorem c51 {xs ys : List Idx} {g : FuncId} (hl : xs.length ≤ 9223372036854775806) (ih : ∀ (i : Nat) (x y : Idx), xs[i]? = some x → ys[i]? = some y → ACall Try.prog 0 g [.agg ((enc x).map (MD .st)), .agg ((enc y).map (MD .st))] (hpL []) (.bool (sameI x y)) (hpL [])) :
    ACall Try.prog 0 51 [.sl .st (encL xs), .sl .st (encL ys), .fn g []] (hpL []) (.bool (decide (xs.length = ys.length) && sameL xs ys)) (hpL []) := by
  refine acall_go (fn := Try.f51) (by kernel_rfl) (by kernel_rfl) (by rfl) (Nat.le_of_ble_eq_true rfl) ?_
  show AGo _ _ _ _ _ ⟨32, _, _⟩
  repeat refine go1 (F := F) rfl ?_
  rw [encL_len, encL_len]
  refine goIf rfl (fun h3 => ?_) (fun h3 => ?_)
  · simp at h3
    repeat refine go1 (F := F) rfl ?_
    refine goDone (F := F) rfl rfl ?_
    have : ¬ xs.length = ys.length := by omega
    simp [this]
  · simp at h3
    have hlen : xs.length = ys.length := by omega
    repeat refine go1 (F := F) rfl ?_
    rw [encL_len]
    refine goLoop (X := {i : Nat // i ≤ xs.length ∧ sameL xs ys = sameL (xs.drop i) (ys.drop i)}) (fun i => [(1, .sl .st (encL ys)), (2, .fn g []), (15, .sl .st (encL xs)), (16, .int .i64 xs.length), (17, .int .i64 i.1)]) (fun _ => []) (fun i => xs.length - i.1) ⟨0, Nat.zero_le _, rfl⟩ (Le.same (by repeat' constructor)) ?_
    rintro ⟨i, hi, hs⟩
    simp only at hi hs ⊢
    repeat refine go1 (F := F) rfl ?_
    refine goIf rfl (fun hr => ?_) (fun hr => ?_)
    · simp only [decide_eq_true_eq] at hr
      have hil : i < xs.length := by omega
      obtain ⟨⟨a1, b1, c1⟩, hx⟩ : ∃ x, xs[i]? = some x := ⟨_, List.getElem?_eq_getElem hil⟩
      obtain ⟨⟨a2, b2, c2⟩, hy⟩ : ∃ x, ys[i]? = some x := ⟨_, List.getElem?_eq_getElem (by omega)⟩
      repeat refine go1 (F := F) rfl ?_
      refine goAt (F := F) rfl rfl rfl rfl rfl rfl (by omega) (encL_at hx) rfl rfl (Nat.zero_lt_succ _) ?_
      repeat refine go1 (F := F) rfl ?_
      refine goAt (F := F) rfl rfl rfl rfl rfl rfl (by omega) (encL_at hy) rfl rfl (Nat.zero_lt_succ _) ?_
      repeat refine go1 (F := F) rfl ?_
      refine goCall [] rfl rfl rfl rfl (ih i _ _ hx hy) (by repeat' constructor) (.inl rfl) rfl rfl ?_
      repeat refine go1 (F := F) rfl ?_
      refine goIf rfl (fun h4 => ?_) (fun h4 => ?_)
      · simp at h4
        repeat refine go1 (F := F) rfl ?_
        refine goDone (F := F) rfl rfl ?_
        rw [hs, drop_at hx, drop_at hy, sameL, h4]; simp
      · simp at h4
        repeat refine go1 (F := F) rfl ?_
        rw [wrap64 (n := (i : Int) + 1) (by omega) (by omega)]
        refine goInv ⟨⟨i + 1, by omega, by rw [hs, drop_at hx, drop_at hy, sameL, h4]; rfl⟩, (by show xs.length - (i + 1) < xs.length - i; omega), Le.same ?_⟩
        repeat' constructor
    · simp only [decide_eq_false_iff_not] at hr
      repeat refine go1 (F := F) rfl ?_
      refine goDone (F := F) rfl rfl ?_
      have e1 : xs.drop i = [] := List.drop_eq_nil_of_le (by omega)
      simp [hs, e1, sameL, hlen]

theorem c16 {op n op' n' : Int} {ks ks' : List Idx} (h51 : ACall Try.prog 0 51 [.sl .st (encL ks), .sl .st (encL ks'), .fn 16 []] (hpL []) (.bool (decide (ks.length = ks'.length) && sameL ks ks')) (hpL [])) :
    ACall Try.prog 0 16 [.agg ((enc (.mk op n ks)).map (MD .st)), .agg ((enc (.mk op' n' ks')).map (MD .st))] (hpL []) (.bool (sameI (.mk op n ks) (.mk op' n' ks'))) (hpL []) := by
  refine acall_go (fn := Try.f16) (by kernel_rfl) (by kernel_rfl) (by rfl) (Nat.le_of_ble_eq_true rfl) ?_
  show AGo _ _ _ _ _ ⟨24, _, _⟩
  repeat refine go1 (F := F) rfl ?_
  refine goGuard rfl rfl rfl (fun h1 => ?_) (fun h1 => ?_)
  · simp at h1
    repeat refine go1 (F := F) rfl ?_
    refine goGuard rfl rfl rfl (fun h2 => ?_) (fun h2 => ?_)
    · simp at h2
      repeat refine go1 (F := F) rfl ?_
      refine goCall [] rfl rfl rfl rfl h51 (by repeat' constructor) (.inl rfl) rfl rfl ?_
      repeat refine go1 (F := F) rfl ?_
      refine goDone (F := F) rfl rfl ?_
      rw [sameI]
      simp [h1, h2]
      rfl
    · simp at h2
      repeat refine go1 (F := F) rfl ?_
      refine goDone (F := F) rfl rfl ?_
      rw [sameI]; simp [h2]
  · simp at h1
    repeat refine go1 (F := F) rfl ?_
    refine goDone (F := F) rfl rfl ?_
    rw [sameI]; simp [h1]
end Go.Proofs.Tst
