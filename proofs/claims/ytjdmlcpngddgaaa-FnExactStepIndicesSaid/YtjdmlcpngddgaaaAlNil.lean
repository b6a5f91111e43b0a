/- The abstract logic, part 21: is a slice nil; an empty row in nil's place; append and slices that are built. -/
import Derived.Test.YtjdmlcpngddgaaaAlLst
set_option linter.unusedVariables false
set_option linter.unusedSimpArgs false
namespace Go.Al
open Go Go.RowKit

theorem opat_value {P : Program} {o : Oper} {σ : St} {v : AV} {C : Co} {a : Act} {w : World} (hc : Conc σ C a w) (h : ∃ u, (execOp a.eval o).run P w = .ok (.value u) w ∧ VRep w σ.hp C v u) : OpAt P o σ ⟨v, []⟩ C a w := by
  obtain ⟨u, hr, hv⟩ := h
  unfold OpAt Oper.wp
  rw [hr, Oper.upon_value]
  exact ⟨C, hc.put o.dst (Ev.refl ..) hv hc.heap, Ev.refl .., Fr.refl ..⟩

def isEql : BinOp → Bool
  | .eql => true
  | _ => false
theorem nil_run {P : Program} {w : World} {t e : TypeId} {A : Option Addr} {n c : Nat} (xo yo : Operand) (hu : P.underlying t = some (.slice e)) (op : BinOp) (hop : op = .eql ∨ op = .neq) :
    (do eqGuard op t xo yo (.slice A n c) (.slice none 0 0); binOp op t (.slice A n c) (.slice none 0 0) : Sem Value).run P w = .ok (.bool (A.isNone == isEql op)) w := by
  have he : (Op.equal t (.slice A n c) (.slice none 0 0)).run P w = .ok A.isNone w := by
    unfold Op.equal
    rw [show Op.maxDepth = 9999 + 1 from rfl, Op.equalIn]
    cases A <;> simp [underlying, hu]
  rcases hop with rfl | rfl
  · simp [eqGuard, binOp, he, isEql]
  · simp [eqGuard, binOp, he, isEql]

section
variable {P : Program} {F : Ty} [hF : TyF P F] {V nt : Nat} {Q : Exit → St → Prop} {k : List Kf} {l : Tm} {h h' : Hl} {os : Array Oper} {o : Oper} {r : List Oper} {d : Tmp}

/-- Is a slice nil? If so it is empty; more is not known. -/
theorem goNil {t e yt : TypeId} {x y : Operand} {op : BinOp} {m : Md} {xs : List (List D)} (hd : o.dst = some d) (hw : wantedA os o ⟨nt, tmA l, hpL h⟩ = some true) (ho : o.op = .binOp op t x y yt) (hop : op = .eql ∨ op = .neq)
    (hx : (St.mk nt (tmA l) (hpL h)).ev x = .sl m xs) (hy : (St.mk nt (tmA l) (hpL h)).ev y = .nil) (he : elOf F t = some e) (hl : live (hpL h) m = true) (hne : ∀ cs ∈ xs, 0 < cs.length)
    (hg : ∀ b : Bool, (b = true → xs = []) → AGo P V Q (.ops os r :: k) .normal ⟨nt, tmA ((d, .bool (b == isEql op)) :: l), hpL h⟩) : AGo P V Q (.ops os (o :: r) :: k) .normal ⟨nt, tmA l, hpL h⟩ := by
  have hFe := hF.eq
  subst hFe
  refine AGo.ops (I := {b : Bool // b = true → xs = []}) (fun b => ⟨.bool (b.1 == isEql op), []⟩) hw (fun C a w hc => ?_) fun b => ?_
  · have hxv := hc.ev x
    have hyv := hc.ev y
    rw [hx] at hxv
    rw [hy] at hyv
    simp only [VRep] at hxv hyv
    obtain ⟨⟨A, n, c, hv⟩, hm⟩ := hxv
    have hA' : A.isNone = true → xs = [] := fun hA => by
      obtain ⟨F0, hd, _⟩ := hm.live hl
      rw [hv] at hd
      cases hd with
      | sl vals he hc hm' hv' hr ha =>
        by_cases hvn : vals = []
        · subst hvn
          cases xs with
          | nil => rfl
          | cons c cs =>
            have := hne c (by simp)
            simp at hv'
            omega
        · obtain ⟨ad, e1, _⟩ := ha hvn
          rw [e1] at hA; simp at hA
    have hat : OpAt P o ⟨nt, tmA l, hpL h⟩ ⟨.bool (A.isNone == isEql op), []⟩ C a w := opat_value hc ⟨.bool (A.isNone == isEql op), by
      have := nil_run (P := P) (w := w) (A := A) (n := n) (c := c) x y (elOf_run he) op hop
      simp only [execOp, ho, hv, hyv]
      simp only [Sem.run_bind] at this ⊢
      rw [this]; rfl, by simp [VRep]⟩
    exact Oper.wp_mono (fun a' w' h => ⟨⟨A.isNone, hA'⟩, h⟩) hat
  · have := hg b.1 b.2
    simpa [St.app, St.put, hd, tmA_upd, writes] using this
end
end Go.Al
