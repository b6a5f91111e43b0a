/- Part of a proof over the seat Ytjdmlcpngddgaaa: what the text lends is said at its theorems. -/
import Derived.Test.YtjdmlcpngddgaaaTstG
namespace Go.Proofs.Tst
open Go Go.Al Go.Proofs

theorem c3 {x y : Idx} {r1 r2 : Int} {b : Bool}
    (s1 : ACall Try.prog 0 13 [.agg ((enc x).map (MD .st)), .int .i64 1048576] (hpL []) (.int .i64 r1) (hpL []))
    (s2 : 0 ≤ r1 → ACall Try.prog 0 13 [.agg ((enc y).map (MD .st)), .int .i64 r1] (hpL []) (.int .i64 r2) (hpL []))
    (rest : 0 ≤ r1 → 0 ≤ r2 → ∃ op n ks op' n' ks', x = .mk op n ks ∧ y = .mk op' n' ks' ∧
      ACall Try.prog 0 15 [.agg ((enc x).map (MD .st))] (hpL []) (.agg [.int .i64 op, .int .i64 n, .sl (.inn 3) (encL ks)]) (hpL []) ∧
      ACall Try.prog 0 15 [.agg ((enc y).map (MD .st))] (hpL []) (.agg [.int .i64 op', .int .i64 n', .sl (.inn 3) (encL ks')]) (hpL []) ∧
      ACall Try.prog 0 14 [.agg ((enc x).map (MD .st)), .agg ((enc y).map (MD .st))] (hpL []) (.bool b) (hpL []) ∧
      ACall Try.prog 0 16 [.agg ((enc x).map (MD .st)), .agg ((enc y).map (MD .st))] (hpL []) (.bool b) (hpL []) ∧
      ACall Try.prog 0 17 [.agg ((enc x).map (MD .st)), .agg ((enc x).map (MD .st))] (hpL []) (.bool true) (hpL []) ∧
      ACall Try.prog 0 17 [.agg ((enc y).map (MD .st)), .agg ((enc y).map (MD .st))] (hpL []) (.bool true) (hpL [])) :
    ACall Try.prog 0 3 [.agg ((enc x).map (MD .st)), .agg ((enc y).map (MD .st))] (hpL []) (.bool true) (hpL []) := by
  obtain ⟨op, n, ks⟩ := x
  obtain ⟨op', n', ks'⟩ := y
  refine acall_go (fn := Try.f3) (by kernel_rfl) (by kernel_rfl) (by rfl) (Nat.le_of_ble_eq_true rfl) ?_
  show AGo _ _ _ _ _ ⟨45, _, _⟩
  repeat refine go1 (F := F) rfl ?_
  refine goCall [] rfl rfl rfl rfl s1 (by repeat' constructor) (.inl rfl) rfl rfl ?_
  repeat refine go1 (F := F) rfl ?_
  refine goIf rfl (fun h1 => ?_) (fun h1 => ?_)
  · repeat refine go1 (F := F) rfl ?_
    exact goDone (F := F) rfl rfl rfl
  · simp at h1
    repeat refine go1 (F := F) rfl ?_
    refine goCall [] rfl rfl rfl rfl (s2 h1) (by repeat' constructor) (.inl rfl) rfl rfl ?_
    repeat refine go1 (F := F) rfl ?_
    refine goIf rfl (fun h2 => ?_) (fun h2 => ?_)
    · repeat refine go1 (F := F) rfl ?_
      exact goDone (F := F) rfl rfl rfl
    · simp at h2
      repeat refine go1 (F := F) rfl ?_
      obtain ⟨_, _, _, _, _, _, e1, e2, t1, t2, c14', c16', c17a, c17b⟩ := rest h1 h2
      cases e1; cases e2
      refine goDraw ?_
      repeat refine dgo1 (F := F) rfl ?_
      refine dgoCall [] rfl rfl rfl rfl rfl t1 (by repeat' constructor) (.inl rfl) rfl rfl rfl ?_
      repeat refine dgo1 (F := F) rfl ?_
      refine dgoCall [] rfl rfl rfl rfl rfl t2 (by repeat' constructor) (.inl rfl) rfl rfl rfl ?_
      repeat refine dgo1 (F := F) rfl ?_
      refine dgoCall [2, 3] rfl rfl rfl rfl rfl c14' ⟨⟨⟨rfl, rfl⟩, ⟨rfl, rfl⟩, ⟨by simp, _, _, _, _, rfl, rfl, rfl⟩, trivial⟩, ⟨⟨rfl, rfl⟩, ⟨rfl, rfl⟩, ⟨by simp, _, _, _, _, rfl, rfl, rfl⟩, trivial⟩, trivial⟩ (.inr rfl) rfl rfl rfl ?_
      repeat refine dgo1 (F := F) rfl ?_
      refine dgoEndQ (F := F) mixed [(2, 0)] (by kernel_rfl) (by kernel_rfl) (by kernel_rfl) ?_
      repeat refine go1 (F := F) rfl ?_
      refine goCall [] rfl rfl rfl rfl t1 (by repeat' constructor) (.inl rfl) rfl rfl ?_
      repeat refine go1 (F := F) rfl ?_
      refine goCall [] rfl rfl rfl rfl t2 (by repeat' constructor) (.inl rfl) rfl rfl ?_
      repeat refine go1 (F := F) rfl ?_
      refine goCall [4, 6] rfl rfl rfl rfl c16' ⟨⟨⟨rfl, rfl⟩, ⟨rfl, rfl⟩, ⟨by simp, _, _, _, _, rfl, rfl, rfl⟩, trivial⟩, ⟨⟨rfl, rfl⟩, ⟨rfl, rfl⟩, ⟨by simp, _, _, _, _, rfl, rfl, rfl⟩, trivial⟩, trivial⟩ (.inr rfl) rfl rfl ?_
      repeat refine go1 (F := F) rfl ?_
      refine goIf rfl (fun h3 => absurd h3 (by simp)) (fun h3 => ?_)
      repeat refine go1 (F := F) rfl ?_
      refine goDraw ?_
      repeat refine dgo1 (F := F) rfl ?_
      refine dgoCall [] rfl rfl rfl rfl rfl t1 (by repeat' constructor) (.inl rfl) rfl rfl rfl ?_
      repeat refine dgo1 (F := F) rfl ?_
      refine dgoCall [4, 8] rfl rfl rfl rfl rfl c17a ⟨⟨⟨rfl, rfl⟩, ⟨rfl, rfl⟩, ⟨by simp, _, _, _, _, rfl, rfl, rfl⟩, trivial⟩, ⟨⟨rfl, rfl⟩, ⟨rfl, rfl⟩, ⟨by simp, _, _, _, _, rfl, rfl, rfl⟩, trivial⟩, trivial⟩ (.inr rfl) rfl rfl rfl ?_
      repeat refine dgo1 (F := F) rfl ?_
      refine dgoEndQ (F := F) mixed [(0, 3)] (by kernel_rfl) (by kernel_rfl) (by kernel_rfl) ?_
      repeat refine go1 (F := F) rfl ?_
      refine goDraw ?_
      repeat refine dgo1 (F := F) rfl ?_
      refine dgoCall [] rfl rfl rfl rfl rfl t2 (by repeat' constructor) (.inl rfl) rfl rfl rfl ?_
      repeat refine dgo1 (F := F) rfl ?_
      refine dgoCall [6, 9] rfl rfl rfl rfl rfl c17b ⟨⟨⟨rfl, rfl⟩, ⟨rfl, rfl⟩, ⟨by simp, _, _, _, _, rfl, rfl, rfl⟩, trivial⟩, ⟨⟨rfl, rfl⟩, ⟨rfl, rfl⟩, ⟨by simp, _, _, _, _, rfl, rfl, rfl⟩, trivial⟩, trivial⟩ (.inr rfl) rfl rfl rfl ?_
      repeat refine dgo1 (F := F) rfl ?_
      refine dgoEndQ (F := F) mixed [(0, 3)] (by kernel_rfl) (by kernel_rfl) (by kernel_rfl) ?_
      repeat refine go1 (F := F) rfl ?_
      exact goDone (F := F) rfl rfl rfl
end Go.Proofs.Tst
