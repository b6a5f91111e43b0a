/- Part of a proof over the seat Ytjdmlcpngddgaaa: what the text lends is said at its theorems. -/
import Derived.Test.YtjdmlcpngddgaaaIx8
set_option linter.unusedVariables false
set_option linter.unusedSimpArgs false
set_option maxRecDepth 20000
namespace Go.Proofs.Ix
open Go Go.Al Go.Proofs
open Go.Proofs.Tst (Idx Idx.rec' enc encL encL_len encL_at encL_map F rightI rightL rightL_at sizeI sizeL sizeI_pos sizeL_nn sizeL_mem isI c_specIsIndexTerm c_IsIndexTerm ab_idx mixed a13 a15 a17 szI WI WL WL_all szI_bnd szI_small same_refl)

theorem sizeL_len : ∀ xs : List Idx, (xs.length : Int) ≤ sizeL xs
  | [] => by simp [sizeL]
  | x :: xs => by rw [sizeL]; have := sizeI_pos x; have := sizeL_len xs; simp; omega
theorem WI_size {B : Nat} : ∀ x : Idx, sizeI x ≤ B → WI x B := by
  refine Idx.rec' fun op n ks ih h => ?_
  rw [sizeI] at h
  have := sizeL_len ks
  rw [WI]
  refine ⟨by omega, WL_all fun k hk => ih k hk ?_⟩
  have := sizeL_mem hk
  omega
theorem step_size (x : Idx) : sizeI ((stepI x).getD z0) ≤ 60 := by
  have hz : sizeI z0 = 1 := by simp [z0, sizeI, sizeL]
  unfold stepI
  split
  · cases redI x with
    | none => simp [hz]
    | some y =>
      simp only
      split
      · rename_i h; exact (isI_ok h).2
      · simp [hz]
  · simp [hz]
theorem c_law9 (x : Idx) (hw : WI x 9223372036854775807) : ACall Try.prog 0 9 [.agg ((enc x).map (MD .st))] (hpL []) (.bool true) (hpL []) := by
  have s1 := a13 x hw 1048576 (by omega) (by omega)
  generalize hr1 : szI x 1048576 = r1 at s1
  have hrest : 0 ≤ r1 → sizeI x ≤ 1048577 ∧ WI x 1048576 := fun h => ⟨szI_bnd (m := 1048576) (by omega), szI_small x 1048576 _ (by omega) (by omega)⟩
  have f1 := c_specStepIndices x
  have f2 := c_StepIndices x
  have hys := step_size x
  unfold resI at f1 f2
  generalize (stepI x).getD z0 = y at f1 f2 hys
  generalize (stepI x).isSome = g at f1 f2
  have wy := WI_size (B := 1048576) y (by omega)
  obtain ⟨op, n, ks⟩ := x
  obtain ⟨ya, yb, yc⟩ := y
  rw [sizeI] at hys
  have hyn := sizeL_nn yc
  have hkn := sizeL_nn ks
  refine acall_go (fn := Try.f9) (by kernel_rfl) (by kernel_rfl) (by rfl) (Nat.le_of_ble_eq_true rfl) ?_
  show AGo _ _ _ _ _ ⟨96, _, _⟩
  repeat refine go1 (F := F) rfl ?_
  refine goCall [] rfl rfl rfl rfl (s1) (by repeat' first | exact ⟨by simp, _, _, _, _, rfl, (by first | rfl | assumption | (simp; done)), rfl⟩ | constructor | (simp; done)) (.inl rfl) rfl rfl ?_
  repeat refine go1 (F := F) rfl ?_
  refine goIf rfl (fun h1 => ?_) (fun h1 => ?_) <;> (try simp at h1) <;> (repeat refine go1 (F := F) rfl ?_)
  · refine goDone (F := F) rfl rfl ?_
    rfl
  · obtain ⟨hs, hw'⟩ := hrest h1
    have f1 := f1 (by omega)
    rw [sizeI] at hs
    have t1 : ACall Try.prog 0 15 [.agg ((enc (.mk op n ks)).map (MD .st))] (hpL []) (Idx.own (.mk op n ks)) (hpL []) := a15 (.mk op n ks) hw' op n ks rfl
    have eq := a17 (.mk op n ks) hw' (.mk op n ks) hw'
    rw [same_refl] at eq
    have eqy := a17 (.mk ya yb yc) wy (.mk ya yb yc) wy
    rw [same_refl] at eqy
    have m1 := (mkL_ok ks 1).1
    have m2 := (mkL_ok yc 1).1
    have hl6 : (encL (mkL yc 1).1).length = (encL yc).length := by rw [encL_len, encL_len]; exact (mkL_ok yc 1).2
    refine goCall [] rfl rfl rfl rfl (t1) (by repeat' first | exact ⟨by simp, _, _, _, _, rfl, (by first | rfl | assumption | (simp; done)), rfl⟩ | constructor | (simp; done)) (.inl rfl) rfl rfl ?_
    repeat refine go1 (F := F) rfl ?_
    refine goCall [1] rfl rfl rfl rfl (f1) (by repeat' first | exact ⟨by simp, _, _, _, _, rfl, (by first | rfl | assumption | (simp; done)), rfl⟩ | constructor | (simp; done)) (.inr rfl) rfl rfl ?_
    repeat refine go1 (F := F) rfl ?_
    refine goCall [] rfl rfl rfl rfl (t1) (by repeat' first | exact ⟨by simp, _, _, _, _, rfl, (by first | rfl | assumption | (simp; done)), rfl⟩ | constructor | (simp; done)) (.inl rfl) rfl rfl ?_
    repeat refine go1 (F := F) rfl ?_
    refine goCall [4] rfl rfl rfl rfl (f2) (by repeat' first | exact ⟨by simp, _, _, _, _, rfl, (by first | rfl | assumption | (simp; done)), rfl⟩ | constructor | (simp; done)) (.inr rfl) rfl rfl ?_
    repeat refine go1 (F := F) rfl ?_
    refine goCall [6, 2] rfl rfl rfl rfl (eqy) (by repeat' first | exact ⟨by simp, _, _, _, _, rfl, (by first | rfl | assumption | (simp; done)), rfl⟩ | constructor | (simp; done)) (.inr rfl) rfl rfl ?_
    repeat refine go1 (F := F) rfl ?_
    refine goIf rfl (fun h3 => ?_) (fun h3 => ?_) <;> (try simp at h3) <;> (repeat refine go1 (F := F) rfl ?_)
    refine goDraw ?_
    repeat first | refine dgo1 (F := F) rfl ?_ | refine dgoAlloc (F := F) rfl rfl rfl rfl rfl rfl rfl ?_
    refine dgoCall [] rfl rfl rfl rfl rfl (t1) (by repeat' first | exact ⟨by simp, _, _, _, _, rfl, (by first | rfl | assumption | (simp; done)), rfl⟩ | constructor | (simp; done)) (.inl rfl) rfl rfl rfl ?_
    repeat first | refine dgo1 (F := F) rfl ?_ | refine dgoAlloc (F := F) rfl rfl rfl rfl rfl rfl rfl ?_
    refine dgoCall [4, 8] rfl rfl rfl rfl rfl (eq) (by repeat' first | exact ⟨by simp, _, _, _, _, rfl, (by first | rfl | assumption | (simp; done)), rfl⟩ | constructor | (simp; done)) (.inr rfl) rfl rfl rfl ?_
    repeat first | refine dgo1 (F := F) rfl ?_ | refine dgoAlloc (F := F) rfl rfl rfl rfl rfl rfl rfl ?_
    refine dgoEndQ (F := F) mixed [(0, 3)] (by kernel_rfl) (by kernel_rfl) (by kernel_rfl) ?_
    repeat refine go1 (F := F) rfl ?_
    refine goCallRef [4] [] rfl rfl rfl rfl (c_markIndex op n ks 1 0 (by omega) (by omega)) (by repeat' first | exact ⟨by simp, _, _, _, _, rfl, (by first | rfl | assumption | (simp; done)), rfl⟩ | constructor | (simp; done)) (by repeat' first | exact ⟨by simp, _, _, _, _, rfl, (by first | rfl | assumption | (simp; done)), rfl⟩ | constructor | (simp; done)) rfl rfl rfl rfl rfl (.inl rfl) rfl rfl rfl ?_
    repeat refine go1 (F := F) rfl ?_
    refine goGuard rfl rfl rfl (fun h4 => ?_) (fun h4 => ?_) <;> (try simp at h4) <;> (repeat refine go1 (F := F) rfl ?_)
    · omega
    · refine goCall [6, 2] rfl rfl rfl rfl (eqy) (by repeat' first | exact ⟨by simp, _, _, _, _, rfl, (by first | rfl | assumption | (simp; done)), rfl⟩ | constructor | (simp; done)) (.inr rfl) rfl rfl ?_
      repeat refine go1 (F := F) rfl ?_
      refine goIf rfl (fun h5 => ?_) (fun h5 => ?_) <;> (try simp at h5) <;> (repeat refine go1 (F := F) rfl ?_)
      refine goCallRef [6] [] rfl rfl rfl rfl (c_markIndex ya yb yc 1 0 (by omega) (by omega)) (by repeat' first | exact ⟨by simp, _, _, _, _, rfl, (by first | rfl | assumption | (simp; done)), rfl⟩ | constructor | (simp; done)) (by repeat' first | exact ⟨by simp, _, _, _, _, rfl, (by first | rfl | assumption | (simp; done)), rfl⟩ | constructor | (simp; done)) rfl rfl rfl rfl rfl (.inl rfl) rfl rfl rfl ?_
      repeat refine go1 (F := F) rfl ?_
      refine goCall [6] rfl rfl rfl rfl (c_heldIndex ya yb yc 1 (by omega) (by omega)) (by repeat' first | exact ⟨by simp, _, _, _, _, rfl, (by first | rfl | assumption | (simp; done)), rfl⟩ | constructor | (simp; done)) (.inr rfl) rfl rfl ?_
      repeat refine go1 (F := F) rfl ?_
      refine goIf rfl (fun h6 => ?_) (fun h6 => ?_) <;> (try simp at h6) <;> (repeat refine go1 (F := F) rfl ?_)
      · omega
      · refine goIf rfl (fun h7 => ?_) (fun h7 => ?_)
        · simp at h7
        repeat refine go1 (F := F) rfl ?_
        refine goCall [] rfl rfl rfl rfl (t1) (by repeat' first | exact ⟨by simp, _, _, _, _, rfl, (by first | rfl | assumption | (simp; done)), rfl⟩ | constructor | (simp; done)) (.inl rfl) rfl rfl ?_
        repeat refine go1 (F := F) rfl ?_
        refine goCall [9] rfl rfl rfl rfl (f2) (by repeat' first | exact ⟨by simp, _, _, _, _, rfl, (by first | rfl | assumption | (simp; done)), rfl⟩ | constructor | (simp; done)) (.inr rfl) rfl rfl ?_
        repeat refine go1 (F := F) rfl ?_
        refine goCall [10, 2] rfl rfl rfl rfl (eqy) (by repeat' first | exact ⟨by simp, _, _, _, _, rfl, (by first | rfl | assumption | (simp; done)), rfl⟩ | constructor | (simp; done)) (.inr rfl) rfl rfl ?_
        repeat refine go1 (F := F) rfl ?_
        refine goIf rfl (fun h8 => ?_) (fun h8 => ?_) <;> (try simp at h8) <;> (repeat refine go1 (F := F) rfl ?_)
        refine goCall [6] rfl rfl rfl rfl (c_heldIndex ya yb yc 1 (by omega) (by omega)) (by repeat' first | exact ⟨by simp, _, _, _, _, rfl, (by first | rfl | assumption | (simp; done)), rfl⟩ | constructor | (simp; done)) (.inr rfl) rfl rfl ?_
        repeat refine go1 (F := F) rfl ?_
        refine goIf rfl (fun h9 => ?_) (fun h9 => ?_) <;> (try simp at h9) <;> (repeat refine go1 (F := F) rfl ?_)
        · omega
        · refine goIf rfl (fun h10 => ?_) (fun h10 => ?_)
          · simp at h10
          repeat refine go1 (F := F) rfl ?_
          refine goDone (F := F) rfl rfl ?_
          rfl
end Go.Proofs.Ix
