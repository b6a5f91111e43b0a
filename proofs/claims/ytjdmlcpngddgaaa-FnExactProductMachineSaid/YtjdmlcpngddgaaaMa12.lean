/- Part of a proof over the seat Ytjdmlcpngddgaaa: what the text lends is said at its theorems. -/
import Derived.Test.YtjdmlcpngddgaaaMa11
import Derived.Test.YtjdmlcpngddgaaaMa8
set_option linter.unusedVariables false
set_option linter.unusedSimpArgs false
set_option maxRecDepth 20000
namespace Go.Proofs.Ma
open Go Go.Al Go.Proofs
open Go.Proofs.Tst (c_l1In c_l1Atom c_isAtom mixed)

theorem prodM_len (a b : Mach) (sm : Bool) : (prodM a b sm).1.acc.length ≤ 81 ∧ (prodM a b sm).1.mov.length ≤ 1048576 := by
  unfold prodM
  split
  · rename_i h
    simp only [Bool.and_eq_true, prodPre] at h
    have ha := isM_ok h.1.1.1
    have hb := isM_ok h.1.1.2
    have ka := pA_pow h.1.1.1
    have kb := pA_pow h.1.1.2
    simp only [prodRes, List.length_map, List.length_range]
    have h1 : a.acc.length * b.acc.length ≤ 9 * 9 := Nat.mul_le_mul (by omega) (by omega)
    have h2 : prodC a b ≤ 8 * 8 := Nat.mul_le_mul ka.2.1 kb.2.1
    have h3 := Nat.mul_le_mul h1 h2
    exact ⟨h1, Nat.le_trans h3 (by decide)⟩
  · simp [zMach]

theorem c_law8 (x y : Mach) (sm : Bool) : ACall Try.prog 0 8 [.agg (x.enc.map (MD .st)), .agg (y.enc.map (MD .st)), .bool sm] (hpL []) (.bool true) (hpL []) := by
  have s1 := c_szMachine x 1048576 (by omega) (by omega)
  generalize hr1 : szM x 1048576 = r1 at s1
  have s2 : 0 ≤ r1 → r1 ≤ 1048576 → ACall Try.prog 0 20 [.agg (y.enc.map (MD .st)), .int .i64 r1] (hpL []) (.int .i64 (szM y r1)) (hpL []) := fun h h' => c_szMachine y r1 h (by omega)
  have hr1' : r1 ≤ 1048576 := by
    rw [← hr1]; unfold szM; split
    · omega
    · split <;> omega
  have f1 := c_specProductMachine x y sm
  have f2 := c_ProductMachine x y sm
  have hlen := prodM_len x y sm
  generalize prodM x y sm = z at f1 f2 hlen
  obtain ⟨⟨s', r', acc', mov'⟩, g⟩ := z
  obtain ⟨sa, ra, aa, ma⟩ := x
  obtain ⟨sb, rb, ab, mb⟩ := y
  simp only at hlen
  refine acall_go (fn := Try.f8) (by kernel_rfl) (by kernel_rfl) (by rfl) (Nat.le_of_ble_eq_true rfl) ?_
  show AGo _ _ _ _ _ ⟨124, _, _⟩
  repeat refine go1 (F := F) rfl ?_
  refine goCall [] rfl rfl rfl rfl (s1) (by repeat' first | exact ⟨by simp, _, _, _, _, rfl, (by first | rfl | (simp; done)), rfl⟩ | constructor | (simp; done)) (.inl rfl) rfl rfl ?_
  repeat refine go1 (F := F) rfl ?_
  refine goIf rfl (fun h1 => ?_) (fun h1 => ?_) <;> (try simp at h1) <;> (repeat refine go1 (F := F) rfl ?_)
  · refine goDone (F := F) rfl rfl ?_
    rfl
  · generalize hr2 : szM ⟨sb, rb, ab, mb⟩ r1 = r2 at s2
    refine goCall [] rfl rfl rfl rfl (s2 h1 hr1') (by repeat' first | exact ⟨by simp, _, _, _, _, rfl, (by first | rfl | (simp; done)), rfl⟩ | constructor | (simp; done)) (.inl rfl) rfl rfl ?_
    repeat refine go1 (F := F) rfl ?_
    refine goIf rfl (fun h2 => ?_) (fun h2 => ?_) <;> (try simp at h2) <;> (repeat refine go1 (F := F) rfl ?_)
    · refine goDone (F := F) rfl rfl ?_
      rfl
    · have hs := szM_ok (x := ⟨sa, ra, aa, ma⟩) (m := 1048576) (by omega)
      have hs2 := szM_ok (x := ⟨sb, rb, ab, mb⟩) (m := r1) (by omega)
      simp only at hs hs2
      have tA : ACall Try.prog 0 22 [.agg ((Mach.enc ⟨sa, ra, aa, ma⟩).map (MD .st))] (hpL []) (Mach.own ⟨sa, ra, aa, ma⟩) (hpL []) := c_toMachine ⟨sa, ra, aa, ma⟩ (by simp only; omega) (by simp only; omega)
      have tB : ACall Try.prog 0 22 [.agg ((Mach.enc ⟨sb, rb, ab, mb⟩).map (MD .st))] (hpL []) (Mach.own ⟨sb, rb, ab, mb⟩) (hpL []) := c_toMachine ⟨sb, rb, ab, mb⟩ (by simp only; omega) (by simp only; omega)
      have eA := c_eqMachine ⟨sa, ra, aa, ma⟩
      have eB := c_eqMachine ⟨sb, rb, ab, mb⟩
      have eZ := c_eqMachine ⟨s', r', acc', mov'⟩
      refine goDraw ?_
      repeat first | refine dgo1 (F := F) rfl ?_ | refine dgoAlloc (F := F) rfl rfl rfl rfl rfl rfl rfl ?_
      refine dgoCall [] rfl rfl rfl rfl rfl (tA) (by repeat' first | exact ⟨by simp, _, _, _, _, rfl, (by first | rfl | (simp; done)), rfl⟩ | constructor | (simp; done)) (.inl rfl) rfl rfl rfl ?_
      repeat first | refine dgo1 (F := F) rfl ?_ | refine dgoAlloc (F := F) rfl rfl rfl rfl rfl rfl rfl ?_
      refine dgoCall [] rfl rfl rfl rfl rfl (tB) (by repeat' first | exact ⟨by simp, _, _, _, _, rfl, (by first | rfl | (simp; done)), rfl⟩ | constructor | (simp; done)) (.inl rfl) rfl rfl rfl ?_
      repeat first | refine dgo1 (F := F) rfl ?_ | refine dgoAlloc (F := F) rfl rfl rfl rfl rfl rfl rfl ?_
      refine dgoCall [2, 3, 4, 5] rfl rfl rfl rfl rfl (f1) (by repeat' first | exact ⟨by simp, _, _, _, _, rfl, (by first | rfl | (simp; done)), rfl⟩ | constructor | (simp; done)) (.inr rfl) rfl rfl rfl ?_
      repeat first | refine dgo1 (F := F) rfl ?_ | refine dgoAlloc (F := F) rfl rfl rfl rfl rfl rfl rfl ?_
      refine dgoEndFQ (F := F) mixed 9 [(2, 0), (4, 0), (4, 2), (8, 11)] (by kernel_rfl) (by kernel_rfl) (by kernel_rfl) (by kernel_rfl) (by kernel_rfl) ?_
      repeat refine go1 (F := F) rfl ?_
      refine goCall [] rfl rfl rfl rfl (tA) (by repeat' first | exact ⟨by simp, _, _, _, _, rfl, (by first | rfl | (simp; done)), rfl⟩ | constructor | (simp; done)) (.inl rfl) rfl rfl ?_
      repeat refine go1 (F := F) rfl ?_
      refine goCall [] rfl rfl rfl rfl (tB) (by repeat' first | exact ⟨by simp, _, _, _, _, rfl, (by first | rfl | (simp; done)), rfl⟩ | constructor | (simp; done)) (.inl rfl) rfl rfl ?_
      repeat refine go1 (F := F) rfl ?_
      refine goCall [9, 10, 12, 13] rfl rfl rfl rfl (f2) (by repeat' first | exact ⟨by simp, _, _, _, _, rfl, (by first | rfl | (simp; done)), rfl⟩ | constructor | (simp; done)) (.inr rfl) rfl rfl ?_
      repeat refine go1 (F := F) rfl ?_
      refine goCall [15, 16, 6, 7] rfl rfl rfl rfl (eZ) (by repeat' first | exact ⟨by simp, _, _, _, _, rfl, (by first | rfl | (simp; done)), rfl⟩ | constructor | (simp; done)) (.inr rfl) rfl rfl ?_
      repeat refine go1 (F := F) rfl ?_
      refine goIf rfl (fun h3 => ?_) (fun h3 => ?_) <;> (try simp at h3) <;> (repeat refine go1 (F := F) rfl ?_)
      refine goDraw ?_
      repeat first | refine dgo1 (F := F) rfl ?_ | refine dgoAlloc (F := F) rfl rfl rfl rfl rfl rfl rfl ?_
      refine dgoCall [] rfl rfl rfl rfl rfl (tA) (by repeat' first | exact ⟨by simp, _, _, _, _, rfl, (by first | rfl | (simp; done)), rfl⟩ | constructor | (simp; done)) (.inl rfl) rfl rfl rfl ?_
      repeat first | refine dgo1 (F := F) rfl ?_ | refine dgoAlloc (F := F) rfl rfl rfl rfl rfl rfl rfl ?_
      refine dgoCall [9, 10, 18, 19] rfl rfl rfl rfl rfl (eA) (by repeat' first | exact ⟨by simp, _, _, _, _, rfl, (by first | rfl | (simp; done)), rfl⟩ | constructor | (simp; done)) (.inr rfl) rfl rfl rfl ?_
      repeat first | refine dgo1 (F := F) rfl ?_ | refine dgoAlloc (F := F) rfl rfl rfl rfl rfl rfl rfl ?_
      refine dgoEndQ (F := F) mixed [(0, 3)] (by kernel_rfl) (by kernel_rfl) (by kernel_rfl) ?_
      repeat refine go1 (F := F) rfl ?_
      refine goDraw ?_
      repeat first | refine dgo1 (F := F) rfl ?_ | refine dgoAlloc (F := F) rfl rfl rfl rfl rfl rfl rfl ?_
      refine dgoCall [] rfl rfl rfl rfl rfl (tB) (by repeat' first | exact ⟨by simp, _, _, _, _, rfl, (by first | rfl | (simp; done)), rfl⟩ | constructor | (simp; done)) (.inl rfl) rfl rfl rfl ?_
      repeat first | refine dgo1 (F := F) rfl ?_ | refine dgoAlloc (F := F) rfl rfl rfl rfl rfl rfl rfl ?_
      refine dgoCall [12, 13, 20, 21] rfl rfl rfl rfl rfl (eB) (by repeat' first | exact ⟨by simp, _, _, _, _, rfl, (by first | rfl | (simp; done)), rfl⟩ | constructor | (simp; done)) (.inr rfl) rfl rfl rfl ?_
      repeat first | refine dgo1 (F := F) rfl ?_ | refine dgoAlloc (F := F) rfl rfl rfl rfl rfl rfl rfl ?_
      refine dgoEndQ (F := F) mixed [(0, 3)] (by kernel_rfl) (by kernel_rfl) (by kernel_rfl) ?_
      repeat refine go1 (F := F) rfl ?_
      refine goCallRef [9, 10] [] rfl rfl rfl rfl (c_markMachine aa ma sa ra 1 0 0 (by omega) (by omega) (by omega) (by omega)) (by repeat' first | exact ⟨by simp, _, _, _, _, rfl, (by first | rfl | (simp; done)), rfl⟩ | constructor | (simp; done)) (by repeat' first | exact ⟨by simp, _, _, _, _, rfl, (by first | rfl | (simp; done)), rfl⟩ | constructor | (simp; done)) rfl rfl rfl rfl rfl (.inl rfl) rfl rfl rfl ?_
      repeat refine go1 (F := F) rfl ?_
      refine goCallRef [12, 13] [] rfl rfl rfl rfl (c_markMachine ab mb sb rb (1 + aa.length + 2 * ma.length) 0 0 (by omega) (by omega) (by omega) (by omega)) (by repeat' first | exact ⟨by simp, _, _, _, _, rfl, (by first | rfl | (simp; done)), rfl⟩ | constructor | (simp; done)) (by repeat' first | exact ⟨by simp, _, _, _, _, rfl, (by first | rfl | (simp; done)), rfl⟩ | constructor | (simp; done)) rfl rfl rfl rfl rfl (.inl rfl) rfl rfl rfl ?_
      repeat refine go1 (F := F) rfl ?_
      refine goGuard rfl rfl rfl (fun h4 => ?_) (fun h4 => ?_) <;> (try simp at h4) <;> (repeat refine go1 (F := F) rfl ?_)
      · omega
      · refine goCall [15, 16, 6, 7] rfl rfl rfl rfl (eZ) (by repeat' first | exact ⟨by simp, _, _, _, _, rfl, (by first | rfl | (simp; done)), rfl⟩ | constructor | (simp; done)) (.inr rfl) rfl rfl ?_
        repeat refine go1 (F := F) rfl ?_
        refine goIf rfl (fun h5 => ?_) (fun h5 => ?_) <;> (try simp at h5) <;> (repeat refine go1 (F := F) rfl ?_)
        refine goCallRef [15, 16] [] rfl rfl rfl rfl (c_markMachine acc' mov' s' r' 1 0 0 (by omega) (by omega) (by omega) (by omega)) (by repeat' first | exact ⟨by simp, _, _, _, _, rfl, (by first | rfl | (simp; done)), rfl⟩ | constructor | (simp; done)) (by repeat' first | exact ⟨by simp, _, _, _, _, rfl, (by first | rfl | (simp; done)), rfl⟩ | constructor | (simp; done)) rfl rfl rfl rfl rfl (.inl rfl) rfl rfl rfl ?_
        repeat refine go1 (F := F) rfl ?_
        refine goCall [15, 16] rfl rfl rfl rfl (c_heldMachine acc'.length mov'.length s' r' 1 (by omega) (by omega) (by omega) (by omega)) (by repeat' first | exact ⟨by simp, _, _, _, _, rfl, (by first | rfl | (simp; done)), rfl⟩ | constructor | (simp; done)) (.inr rfl) rfl rfl ?_
        repeat refine go1 (F := F) rfl ?_
        refine goIf rfl (fun h6 => ?_) (fun h6 => ?_) <;> (try simp at h6) <;> (repeat refine go1 (F := F) rfl ?_)
        refine goDraw ?_
        repeat first | refine dgo1 (F := F) rfl ?_ | refine dgoAlloc (F := F) rfl rfl rfl rfl rfl rfl rfl ?_
        refine dgoCall [] rfl rfl rfl rfl rfl (tA) (by repeat' first | exact ⟨by simp, _, _, _, _, rfl, (by first | rfl | (simp; done)), rfl⟩ | constructor | (simp; done)) (.inl rfl) rfl rfl rfl ?_
        repeat first | refine dgo1 (F := F) rfl ?_ | refine dgoAlloc (F := F) rfl rfl rfl rfl rfl rfl rfl ?_
        refine dgoCall [] rfl rfl rfl rfl rfl (tB) (by repeat' first | exact ⟨by simp, _, _, _, _, rfl, (by first | rfl | (simp; done)), rfl⟩ | constructor | (simp; done)) (.inl rfl) rfl rfl rfl ?_
        repeat first | refine dgo1 (F := F) rfl ?_ | refine dgoAlloc (F := F) rfl rfl rfl rfl rfl rfl rfl ?_
        refine dgoCall [22, 23, 24, 25] rfl rfl rfl rfl rfl (f2) (by repeat' first | exact ⟨by simp, _, _, _, _, rfl, (by first | rfl | (simp; done)), rfl⟩ | constructor | (simp; done)) (.inr rfl) rfl rfl rfl ?_
        repeat first | refine dgo1 (F := F) rfl ?_ | refine dgoAlloc (F := F) rfl rfl rfl rfl rfl rfl rfl ?_
        refine dgoEndFQ (F := F) mixed 9 [(2, 0), (4, 0), (4, 2), (8, 11)] (by kernel_rfl) (by kernel_rfl) (by kernel_rfl) (by kernel_rfl) (by kernel_rfl) ?_
        repeat refine go1 (F := F) rfl ?_
        refine goCall [26, 27, 6, 7] rfl rfl rfl rfl (eZ) (by repeat' first | exact ⟨by simp, _, _, _, _, rfl, (by first | rfl | (simp; done)), rfl⟩ | constructor | (simp; done)) (.inr rfl) rfl rfl ?_
        repeat refine go1 (F := F) rfl ?_
        refine goIf rfl (fun h7 => ?_) (fun h7 => ?_) <;> (try simp at h7) <;> (repeat refine go1 (F := F) rfl ?_)
        refine goCall [15, 16] rfl rfl rfl rfl (c_heldMachine acc'.length mov'.length s' r' 1 (by omega) (by omega) (by omega) (by omega)) (by repeat' first | exact ⟨by simp, _, _, _, _, rfl, (by first | rfl | (simp; done)), rfl⟩ | constructor | (simp; done)) (.inr rfl) rfl rfl ?_
        repeat refine go1 (F := F) rfl ?_
        refine goIf rfl (fun h8 => ?_) (fun h8 => ?_) <;> (try simp at h8) <;> (repeat refine go1 (F := F) rfl ?_)
        refine goDone (F := F) rfl rfl ?_
        rfl
end Go.Proofs.Ma
