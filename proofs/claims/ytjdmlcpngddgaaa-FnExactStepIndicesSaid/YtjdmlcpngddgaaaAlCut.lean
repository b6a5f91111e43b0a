/- The abstract logic, part 19: where ways meet again. -/
import Derived.Test.YtjdmlcpngddgaaaAlBnd
set_option linter.unusedVariables false
set_option linter.unusedSimpArgs false
namespace Go.Al
open Go Go.RowKit

theorem ARun.mono {P : Program} {ops : Array Oper} {K K' : St → Prop} (hk : ∀ σ, K σ → K' σ) : ∀ {l : List Oper} {σ : St}, ARun P ops K l σ → ARun P ops K' l σ
  | [], σ, h => hk σ h
  | o :: l, σ, h => by
    simp only [ARun] at h ⊢
    split at h
    · obtain ⟨I, outs, h1, h2⟩ := h
      exact ⟨I, outs, h1, fun i => ARun.mono hk (h2 i)⟩
    · exact ARun.mono hk h
    · exact h
theorem AGo.mono1 {P : Program} {V : Nat} {Q : Exit → St → Prop} {k k' : List Kf} (h : ∀ e σ, AGo P V Q k e σ → AGo P V Q k' e σ) (f : Kf) : ∀ e σ, AGo P V Q (f :: k) e σ → AGo P V Q (f :: k') e σ := by
  intro e σ hf
  cases f with
  | code c => cases e <;> simp only [AGo] at hf ⊢ <;> first | exact AWp.mono hf h | exact h _ _ hf
  | ops os l => cases e <;> simp only [AGo] at hf ⊢ <;> first | exact ARun.mono (h _) hf | exact h _ _ hf
  | blk i =>
    cases e <;> simp only [AGo] at hf ⊢ <;> try exact h _ _ hf
    split
    · rename_i hi; rw [if_pos hi] at hf; exact h _ _ hf
    · rename_i hi; rw [if_neg hi] at hf; exact h _ _ hf
  | inv R => cases e <;> simp only [AGo] at hf ⊢ <;> first | exact hf | exact h _ _ hf
def insK : Nat → Kf → List Kf → Option (List Kf × List Kf)
  | 0, r, k => some (r :: k, k)
  | n + 1, r, x :: k => match insK n r k with
    | some (a, b) => some (x :: a, b)
    | none => none
  | _ + 1, _, [] => none
theorem insK_ok {P : Program} {V : Nat} {Q : Exit → St → Prop} {R : St → Prop} : ∀ {n : Nat} {k k1 k2 : List Kf}, insK n (.inv R) k = some (k1, k2) → (∀ σ, R σ → AGo P V Q k2 .normal σ) → ∀ e σ, AGo P V Q k1 e σ → AGo P V Q k e σ
  | 0, k, k1, k2, e, hr => by
    simp [insK] at e; obtain ⟨rfl, rfl⟩ := e
    intro e σ h
    cases e <;> simp only [AGo] at h <;> first | exact hr σ h | exact h
  | n + 1, x :: k, k1, k2, e, hr => by
    simp only [insK] at e
    split at e
    · rename_i a b h1
      simp at e; obtain ⟨rfl, rfl⟩ := e
      exact AGo.mono1 (insK_ok h1 hr) x
    · simp at e
  | n + 1, [], k1, k2, e, hr => by simp [insK] at e
/-- Ways meet again behind the first n frames, in one of the states of a family. -/
theorem goCut {P : Program} {V nt : Nat} {Q : Exit → St → Prop} {k k1 k2 : List Kf} {l : Tm} {h : Hl} {c : Code} {X : Type} (n : Nat) (S : X → Tm) (H : X → Hl)
    (hi : insK n (.inv (fun σ' => ∃ x, Le V σ' ⟨nt, tmA (S x), hpL (H x)⟩)) k = some (k1, .code c :: k2)) (h1 : AGo P V Q k1 .normal ⟨nt, tmA l, hpL h⟩) (h2 : ∀ x, AGo P V Q (.code c :: k2) .normal ⟨nt, tmA (S x), hpL (H x)⟩) :
    AGo P V Q k .normal ⟨nt, tmA l, hpL h⟩ :=
  insK_ok hi (fun σ' ⟨x, hx⟩ => AGo.le hx (h2 x)) _ _ h1
def splitK : Nat → List Kf → Option (List Kf)
  | 0, .code (.seq x y) :: k => some (.code x :: .code y :: k)
  | n + 1, x :: k => match splitK n k with
    | some k' => some (x :: k')
    | none => none
  | _, _ => none
theorem splitK_ok {P : Program} {V : Nat} {Q : Exit → St → Prop} : ∀ {n : Nat} {k k1 : List Kf}, splitK n k = some k1 → ∀ e σ, AGo P V Q k1 e σ → AGo P V Q k e σ
  | 0, .code (.seq x y) :: k, k1, e => by
    simp [splitK] at e; subst e
    intro e σ h
    cases e with
    | normal => exact AGo.seq h
    | _ => simp only [AGo] at h ⊢; exact h
  | n + 1, x :: k, k1, e => by
    simp only [splitK] at e
    split at e
    · rename_i a h1
      simp at e; subst e
      exact AGo.mono1 (splitK_ok h1) x
    · simp at e
  | n + 1, [], k1, e => by simp [splitK] at e
  | 0, [], k1, e => by simp [splitK] at e
  | 0, .blk _ :: _, k1, e => by simp [splitK] at e
  | 0, .ops _ _ :: _, k1, e => by simp [splitK] at e
  | 0, .inv _ :: _, k1, e => by simp [splitK] at e
  | 0, .code c :: k, k1, e => by
    cases c <;> simp [splitK] at e
    subst e
    intro e σ h
    cases e with
    | normal => exact AGo.seq h
    | _ => simp only [AGo] at h ⊢; exact h
/-- The sequence in the n-th frame, told as two. -/
theorem goSplit {P : Program} {V : Nat} {Q : Exit → St → Prop} {k k1 : List Kf} {σ : St} (n : Nat) (hi : splitK n k = some k1) (h1 : AGo P V Q k1 .normal σ) : AGo P V Q k .normal σ := splitK_ok hi _ _ h1
end Go.Al
