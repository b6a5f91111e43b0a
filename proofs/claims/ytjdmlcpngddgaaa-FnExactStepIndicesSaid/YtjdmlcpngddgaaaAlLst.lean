/- The abstract logic, part 20: lists that are filled from the front; tests in drawn regions; operations told by hand. -/
import Derived.Test.YtjdmlcpngddgaaaAlCut
import Derived.Test.YtjdmlcpngddgaaaAlDrawGo
import Derived.Test.YtjdmlcpngddgaaaTstK
set_option linter.unusedVariables false
set_option linter.unusedSimpArgs false
namespace Go.Al
open Go Go.RowKit

theorem at_of {α : Type} {xs : List α} {i : Nat} (h : i < xs.length) : ∃ x, xs[i]? = some x := ⟨_, List.getElem?_eq_getElem h⟩
theorem map_at {α β : Type} {f : α → β} {xs : List α} {i : Nat} {x : α} (h : xs[i]? = some x) : (xs.map f)[i]? = some (f x) := by simp [h]
theorem drop_cons {α : Type} {xs : List α} {i : Nat} {x : α} (h : xs[i]? = some x) : xs.drop i = x :: xs.drop (i + 1) := by
  obtain ⟨hi, rfl⟩ := List.getElem?_eq_some_iff.1 h
  exact List.drop_eq_getElem_cons hi
theorem take_cons {α : Type} {xs : List α} {i : Nat} {x : α} (h : xs[i]? = some x) : xs.take (i + 1) = xs.take i ++ [x] := by
  rw [List.take_add_one, h]; rfl
/-- The first i elements of xs, then zeros. -/
def filled {α : Type} (xs : List α) (n i : Nat) (z : α) : List α := xs.take i ++ List.replicate (n - i) z
theorem filled_zero {α : Type} (xs : List α) (n : Nat) (z : α) : filled xs n 0 z = List.replicate n z := by simp [filled]
theorem filled_len {α : Type} {xs : List α} {n i : Nat} {z : α} (hn : xs.length = n) (hi : i ≤ n) : (filled xs n i z).length = n := by simp [filled]; omega
theorem filled_at {α : Type} {xs : List α} {n i : Nat} {z : α} (hn : xs.length = n) (hi : i < n) : (filled xs n i z)[i]? = some z := by
  unfold filled
  rw [List.getElem?_append_right (by simp; omega), List.getElem?_replicate]
  simp; omega
theorem filled_set {α : Type} {xs : List α} {n i : Nat} {x z : α} (hn : xs.length = n) (h : xs[i]? = some x) : (filled xs n i z).set i x = filled xs n (i + 1) z := by
  have hi : i < n := by have := (List.getElem?_eq_some_iff.1 h).1; omega
  unfold filled
  rw [take_cons h, List.set_append_right _ _ (by simp; omega)]
  have h2 : i - (List.take i xs).length = 0 := by simp; omega
  rw [h2, show n - i = (n - (i + 1)) + 1 by omega, List.replicate_succ]
  simp
theorem filled_done {α : Type} {xs : List α} {n : Nat} {z : α} (hn : xs.length = n) : filled xs n n z = xs := by
  subst hn; simp [filled]

/-! ### Tests in drawn regions -/
section
variable {P : Program} {F : Ty} [hF : TyF P F] {V nt : Nat} {Q : Exit → St → Prop} {k : List Kf} {id : Nat} {ops : List Oper} {l0 : Tm} {h0 : Hl} {o : Oper} {rest : List Oper} {E : List De} {hs : List Hl} {l l' : Tm} {h h' : Hl}
theorem DGo.same (e : tmA l' = tmA l) (hg : DGo P V nt Q k id ops l0 h0 rest E hs l' h) : DGo P V nt Q k id ops l0 h0 rest E hs l h := by
  intro T D hE
  obtain ⟨h1, h2, h3, h4, h5, h6, h7, h8, h9, h10⟩ := D
  exact hg T ⟨h1, h2, h3.trans e.symm, h4, h5, h6, h7, h8, h9, h10⟩ hE
theorem dgoGuard {j : Nat} {want : Bool} {t : Tmp} {b : Bool} (hg : o.guard = some (j, want)) (ht : (ops[j]?).bind (·.dst) = some t) (hv : tmA l t = .bool b)
    (h1 : b = true → DGo P V nt Q k id ops l0 h0 (o :: rest) E hs ((t, .bool true) :: l) h) (h2 : b = false → DGo P V nt Q k id ops l0 h0 (o :: rest) E hs ((t, .bool false) :: l) h) : DGo P V nt Q k id ops l0 h0 (o :: rest) E hs l h := by
  cases b with
  | true => exact DGo.same (tmA_same hv) (h1 rfl)
  | false => exact DGo.same (tmA_same hv) (h2 rfl)

/-! ### Operations whose value is told by hand -/
theorem goEv {os : Array Oper} {r : List Oper} {d : Tmp} {v : AV} (hd : o.dst = some d) (hw : wantedA os o ⟨nt, tmA l, hpL h⟩ = some true) (he : evQ F ⟨nt, tmA l, hpL h⟩ h o = some (v, h'))
    (hg : AGo P V Q (.ops os r :: k) .normal ⟨nt, tmA ((d, v) :: l), hpL h'⟩) : AGo P V Q (.ops os (o :: r) :: k) .normal ⟨nt, tmA l, hpL h⟩ := by
  have hF := hF.eq
  subst hF
  obtain ⟨ws, k1, k2, _⟩ := evQ_ok rfl he
  exact goOp hd hw k1 k2 hg
theorem dgoEv {lo : Tm} {d : Tmp} {v : AV} (hlo : onlyK l (opTs ops o) some = some lo) (hd : o.dst = some d) (hw : wantedA ⟨ops⟩ o ⟨nt, tmA lo, hpL h⟩ = some true) (hl : loudOp o = false)
    (he : evQ F ⟨nt, tmA lo, hpL h⟩ h o = some (v, h')) (hg : DGo P V nt Q k id ops l0 h0 rest (E ++ [⟨o, lo, true, v, false, none⟩]) (hs ++ [h]) ((d, v) :: l) h') : DGo P V nt Q k id ops l0 h0 (o :: rest) E hs l h := by
  have hF := hF.eq
  subst hF
  obtain ⟨ws, k1, k2, k3⟩ := evQ_ok rfl he
  rw [hl] at k3
  have : ws = [] := by simpa using k3.symm
  subst this
  exact dgoOp hlo hd hw k1 rfl k2 hg
end
/-- A shift to the left by a number that is not negative. -/
theorem ev_shl {F : Ty} {t : TypeId} {k k' : IntKind} {a b : Int} (h : 0 ≤ b) : evBin F .shl t (.int k a) (.int k' b) = some (.int k (k.wrap (a * 2 ^ (min b.toNat k.bits)))) := by
  simp only [evBin]; rw [if_neg (by omega)]
theorem ev_quo {F : Ty} {t : TypeId} {k : IntKind} {a b : Int} (h : b ≠ 0) : evBin F .quo t (.int k a) (.int k b) = some (.int k (k.wrap (a.tdiv b))) := by
  simp only [evBin]; rw [if_pos trivial, if_neg h]
theorem ev_rem {F : Ty} {t : TypeId} {k : IntKind} {a b : Int} (h : b ≠ 0) (hw : k.wrap (a.tmod b) = a.tmod b) : evBin F .rem t (.int k a) (.int k b) = some (.int k (a.tmod b)) := by
  simp only [evBin]; rw [if_pos trivial, if_neg h, if_pos hw]
theorem evQ_bin {F : Ty} {σ : St} {h : Hl} {o : Oper} {op : BinOp} {xt yt : TypeId} {x y : Operand} {a b v : AV} (ho : o.op = .binOp op xt x y yt) (hx : σ.ev x = a) (hy : σ.ev y = b) (he : evBin F op xt a b = some v) : evQ F σ h o = some (v, h) := by
  unfold evQ evPure
  rw [ho]
  simp only [hx, hy, he]
end Go.Al
namespace Go.Al
/-- The first place, from i on, of what is asked for; -1: there is none. -/
def ixOf {α : Type} (p : α → Bool) : List α → Int → Int
  | [], _ => -1
  | x :: xs, i => if p x = true then i else ixOf p xs (i + 1)
theorem ixOf_at {α : Type} {p : α → Bool} {xs : List α} {i : Nat} {x : α} {j : Int} (h : xs[i]? = some x) : ixOf p (xs.drop i) j = if p x = true then j else ixOf p (xs.drop (i + 1)) (j + 1) := by rw [drop_cons h, ixOf]
theorem ixOf_ge {α : Type} {p : α → Bool} : ∀ (xs : List α) (i : Int), 0 ≤ i → (decide (0 ≤ ixOf p xs i) = xs.any p) ∧ -1 ≤ ixOf p xs i ∧ ixOf p xs i < i + xs.length + 1
  | [], i, h => by simp [ixOf]; omega
  | x :: xs, i, h => by
    rw [ixOf]
    obtain ⟨h1, h2, h3⟩ := ixOf_ge (p := p) xs (i + 1) (by omega)
    split
    · rename_i hp; simp [hp, h]; omega
    · rename_i hp
      refine ⟨by rw [h1]; simp [hp], h2, by simp; omega⟩
end Go.Al
