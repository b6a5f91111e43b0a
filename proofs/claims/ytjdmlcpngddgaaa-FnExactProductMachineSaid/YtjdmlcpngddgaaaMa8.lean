/- Part of a proof over the seat Ytjdmlcpngddgaaa: what the text lends is said at its theorems. -/
import Derived.Test.YtjdmlcpngddgaaaMa7
set_option linter.unusedVariables false
set_option linter.unusedSimpArgs false
set_option maxRecDepth 20000
namespace Go.Proofs.Ma
open Go Go.Al Go.Proofs
open Go.Proofs.Tst (c_l1In c_l1Atom c_isAtom mixed)

theorem compM_len (x : Mach) : (compM x).acc.length ≤ x.acc.length ∧ (compM x).mov.length ≤ x.mov.length := by
  unfold compM
  split <;> simp [zMach]

theorem c_law7 (x : Mach) : ACall Try.prog 0 7 [.agg (x.enc.map (MD .st))] (hpL []) (.bool true) (hpL []) := by
  have s1 := c_szMachine x 1048576 (by omega) (by omega)
  generalize hr1 : szM x 1048576 = r1 at s1
  have f1 := c_specComplementMachine x
  have f2 := c_ComplementMachine x
  have hlen := compM_len x
  generalize compM x = y at f1 f2 hlen
  obtain ⟨s, r, acc, mov⟩ := x
  obtain ⟨s', r', acc', mov'⟩ := y
  simp only at hlen
  refine acall_go (fn := Try.f7) (by kernel_rfl) (by kernel_rfl) (by rfl) (Nat.le_of_ble_eq_true rfl) ?_
  show AGo _ _ _ _ _ ⟨69, _, _⟩
  repeat refine go1 (F := F) rfl ?_
  refine goCall [] rfl rfl rfl rfl (s1) (by repeat' first | exact ⟨by simp, _, _, _, _, rfl, (by first | rfl | (simp; done)), rfl⟩ | constructor | (simp; done)) (.inl rfl) rfl rfl ?_
  repeat refine go1 (F := F) rfl ?_
  refine goIf rfl (fun h1 => ?_) (fun h1 => ?_) <;> (try simp at h1) <;> (repeat refine go1 (F := F) rfl ?_)
  · refine goDone (F := F) rfl rfl ?_
    rfl
  · have hs := szM_ok (x := ⟨s, r, acc, mov⟩) (m := 1048576) (by omega)
    simp only at hs
    have t1 : ACall Try.prog 0 22 [.agg ((Mach.enc ⟨s, r, acc, mov⟩).map (MD .st))] (hpL []) (Mach.own ⟨s, r, acc, mov⟩) (hpL []) := c_toMachine ⟨s, r, acc, mov⟩ (by simp only; omega) (by simp only; omega)
    refine goCall [] rfl rfl rfl rfl (t1) (by repeat' first | exact ⟨by simp, _, _, _, _, rfl, (by first | rfl | (simp; done)), rfl⟩ | constructor | (simp; done)) (.inl rfl) rfl rfl ?_
    repeat refine go1 (F := F) rfl ?_
    refine goCall [1, 2] rfl rfl rfl rfl (f1) (by repeat' first | exact ⟨by simp, _, _, _, _, rfl, (by first | rfl | (simp; done)), rfl⟩ | constructor | (simp; done)) (.inr rfl) rfl rfl ?_
    repeat refine go1 (F := F) rfl ?_
    refine goCall [] rfl rfl rfl rfl (t1) (by repeat' first | exact ⟨by simp, _, _, _, _, rfl, (by first | rfl | (simp; done)), rfl⟩ | constructor | (simp; done)) (.inl rfl) rfl rfl ?_
    repeat refine go1 (F := F) rfl ?_
    refine goCall [6, 7] rfl rfl rfl rfl (f2) (by repeat' first | exact ⟨by simp, _, _, _, _, rfl, (by first | rfl | (simp; done)), rfl⟩ | constructor | (simp; done)) (.inr rfl) rfl rfl ?_
    repeat refine go1 (F := F) rfl ?_
    refine goCall [9, 10, 3, 4] rfl rfl rfl rfl (c_eqMachine ⟨s', r', acc', mov'⟩) (by repeat' first | exact ⟨by simp, _, _, _, _, rfl, (by first | rfl | (simp; done)), rfl⟩ | constructor | (simp; done)) (.inr rfl) rfl rfl ?_
    repeat refine go1 (F := F) rfl ?_
    refine goDraw ?_
    repeat first | refine dgo1 (F := F) rfl ?_ | refine dgoAlloc (F := F) rfl rfl rfl rfl rfl rfl rfl ?_
    refine dgoCall [] rfl rfl rfl rfl rfl (t1) (by repeat' first | exact ⟨by simp, _, _, _, _, rfl, (by first | rfl | (simp; done)), rfl⟩ | constructor | (simp; done)) (.inl rfl) rfl rfl rfl ?_
    repeat first | refine dgo1 (F := F) rfl ?_ | refine dgoAlloc (F := F) rfl rfl rfl rfl rfl rfl rfl ?_
    refine dgoCall [6, 7, 12, 13] rfl rfl rfl rfl rfl (c_eqMachine ⟨s, r, acc, mov⟩) (by repeat' first | exact ⟨by simp, _, _, _, _, rfl, (by first | rfl | (simp; done)), rfl⟩ | constructor | (simp; done)) (.inr rfl) rfl rfl rfl ?_
    repeat first | refine dgo1 (F := F) rfl ?_ | refine dgoAlloc (F := F) rfl rfl rfl rfl rfl rfl rfl ?_
    refine dgoEndQ (F := F) mixed [(0, 3)] (by kernel_rfl) (by kernel_rfl) (by kernel_rfl) ?_
    repeat refine go1 (F := F) rfl ?_
    refine goCallRef [6, 7] [] rfl rfl rfl rfl (c_markMachine acc mov s r 1 0 0 (by omega) (by omega) (by omega) (by omega)) (by repeat' first | exact ⟨by simp, _, _, _, _, rfl, (by first | rfl | (simp; done)), rfl⟩ | constructor | (simp; done)) (by repeat' first | exact ⟨by simp, _, _, _, _, rfl, (by first | rfl | (simp; done)), rfl⟩ | constructor | (simp; done)) rfl rfl rfl rfl rfl (.inl rfl) rfl rfl rfl ?_
    repeat refine go1 (F := F) rfl ?_
    refine goGuard rfl rfl rfl (fun h2 => ?_) (fun h2 => ?_) <;> (try simp at h2) <;> (repeat refine go1 (F := F) rfl ?_)
    · omega
    · refine goCall [9, 10, 3, 4] rfl rfl rfl rfl (c_eqMachine ⟨s', r', acc', mov'⟩) (by repeat' first | exact ⟨by simp, _, _, _, _, rfl, (by first | rfl | (simp; done)), rfl⟩ | constructor | (simp; done)) (.inr rfl) rfl rfl ?_
      repeat refine go1 (F := F) rfl ?_
      refine goCallRef [9, 10] [] rfl rfl rfl rfl (c_markMachine acc' mov' s' r' 1 0 0 (by omega) (by omega) (by omega) (by omega)) (by repeat' first | exact ⟨by simp, _, _, _, _, rfl, (by first | rfl | (simp; done)), rfl⟩ | constructor | (simp; done)) (by repeat' first | exact ⟨by simp, _, _, _, _, rfl, (by first | rfl | (simp; done)), rfl⟩ | constructor | (simp; done)) rfl rfl rfl rfl rfl (.inl rfl) rfl rfl rfl ?_
      repeat refine go1 (F := F) rfl ?_
      refine goCall [9, 10] rfl rfl rfl rfl (c_heldMachine acc'.length mov'.length s' r' 1 (by omega) (by omega) (by omega) (by omega)) (by repeat' first | exact ⟨by simp, _, _, _, _, rfl, (by first | rfl | (simp; done)), rfl⟩ | constructor | (simp; done)) (.inr rfl) rfl rfl ?_
      repeat refine go1 (F := F) rfl ?_
      refine goIf rfl (fun h3 => ?_) (fun h3 => ?_) <;> (try simp at h3) <;> (repeat refine go1 (F := F) rfl ?_)
      refine goCall [] rfl rfl rfl rfl (t1) (by repeat' first | exact ⟨by simp, _, _, _, _, rfl, (by first | rfl | (simp; done)), rfl⟩ | constructor | (simp; done)) (.inl rfl) rfl rfl ?_
      repeat refine go1 (F := F) rfl ?_
      refine goCall [14, 15] rfl rfl rfl rfl (f2) (by repeat' first | exact ⟨by simp, _, _, _, _, rfl, (by first | rfl | (simp; done)), rfl⟩ | constructor | (simp; done)) (.inr rfl) rfl rfl ?_
      repeat refine go1 (F := F) rfl ?_
      refine goCall [16, 17, 3, 4] rfl rfl rfl rfl (c_eqMachine ⟨s', r', acc', mov'⟩) (by repeat' first | exact ⟨by simp, _, _, _, _, rfl, (by first | rfl | (simp; done)), rfl⟩ | constructor | (simp; done)) (.inr rfl) rfl rfl ?_
      repeat refine go1 (F := F) rfl ?_
      refine goCall [9, 10] rfl rfl rfl rfl (c_heldMachine acc'.length mov'.length s' r' 1 (by omega) (by omega) (by omega) (by omega)) (by repeat' first | exact ⟨by simp, _, _, _, _, rfl, (by first | rfl | (simp; done)), rfl⟩ | constructor | (simp; done)) (.inr rfl) rfl rfl ?_
      repeat refine go1 (F := F) rfl ?_
      refine goIf rfl (fun h5 => ?_) (fun h5 => ?_) <;> (try simp at h5) <;> (repeat refine go1 (F := F) rfl ?_)
      refine goDone (F := F) rfl rfl ?_
      rfl
end Go.Proofs.Ma
