/- The abstract logic, part 6: code. -/
import Derived.Test.YtjdmlcpngddgaaaAlRow2
set_option linter.unusedVariables false
set_option linter.unusedSimpArgs false
namespace Go.Al
open Go Go.RowKit

/-- What lies between two states of one run. -/
structure Gone (V : Nat) (w : World) (hp : Hp) (C : Co) (w' : World) (hp' : Hp) (C' : Co) : Prop where
  fr : Fr w hp C w' hp' C'
  vev : VEv V w hp C w' hp' C'
theorem Gone.refl (V : Nat) (w : World) (hp : Hp) (C : Co) : Gone V w hp C w hp C := ⟨Fr.refl _ _ _, VEv.refl _ _ _ _⟩
theorem Gone.trans {V : Nat} {w w1 w2 : World} {hp hp1 hp2 : Hp} {C C1 C2 : Co} (h : Gone V w hp C w1 hp1 C1) (k : Gone V w1 hp1 C1 w2 hp2 C2) : Gone V w hp C w2 hp2 C2 := ⟨h.fr.trans k.fr, h.vev.trans k.vev⟩

def AWp (P : Program) (V : Nat) (c : Code) (Q : Exit → St → Prop) (σ : St) : Prop :=
  ∀ C a w, Conc σ C a w → c.wp P (fun e a' w' => ∃ σ' C', Q e σ' ∧ Conc σ' C' a' w' ∧ Gone V w σ.hp C w' σ'.hp C') a w

def thenQ (K : St → Prop) (Q : Exit → St → Prop) : Exit → St → Prop
  | .normal, σ => K σ
  | e, σ => Q e σ
def blockQ (id : Nat) (Q : Exit → St → Prop) : Exit → St → Prop
  | .exit i, σ => if i = id then Q .normal σ else Q (.exit i) σ
  | e, σ => Q e σ

section
variable {P : Program} {V : Nat} {Q : Exit → St → Prop} {σ : St}

theorem AWp.mono {c : Code} {Q' : Exit → St → Prop} (h : AWp P V c Q σ) (hq : ∀ e σ, Q e σ → Q' e σ) : AWp P V c Q' σ := fun C a w hc =>
  wp_mono (h C a w hc) fun e a' w' ⟨σ', C', h1, h2⟩ => ⟨σ', C', hq _ _ h1, h2⟩

theorem AWp.seq {x y : Code} (h : AWp P V x (thenQ (fun σ' => AWp P V y Q σ') Q) σ) : AWp P V (.seq x y) Q σ := by
  intro C a w hc
  refine wp_seq (wp_mono (h C a w hc) fun e a' w' ⟨σ', C', h1, h2, h3⟩ => ?_)
  cases e with
  | normal =>
    simp only [thenQ] at h1
    simp only [Exit.then]
    exact wp_mono (h1 C' a' w' h2) fun e a2 w2 ⟨σ2, C2, k1, k2, k3⟩ => ⟨σ2, C2, k1, k2, h3.trans k3⟩
  | exit id => exact ⟨σ', C', h1, h2, h3⟩
  | goto l => exact ⟨σ', C', h1, h2, h3⟩
  | ret => exact ⟨σ', C', h1, h2, h3⟩
  | panic ch => exact ⟨σ', C', h1, h2, h3⟩
  | outgrown => exact ⟨σ', C', h1, h2, h3⟩

theorem AWp.skip (h : Q .normal σ) : AWp P V .skip Q σ := fun C a w hc => wp_skip ⟨σ, C, h, hc, Gone.refl ..⟩
theorem AWp.label {l : Nat} (h : Q .normal σ) : AWp P V (.label l) Q σ := fun C a w hc => wp_label ⟨σ, C, h, hc, Gone.refl ..⟩
theorem AWp.exit {id : Nat} (h : Q (.exit id) σ) : AWp P V (.exit id) Q σ := fun C a w hc => wp_exit ⟨σ, C, h, hc, Gone.refl ..⟩
theorem AWp.ret (h : Q .ret σ) : AWp P V .ret Q σ := fun C a w hc => wp_ret ⟨σ, C, h, hc, Gone.refl ..⟩

theorem AWp.cond {c : Operand} {x y : Code} {t : Bool} (hc : σ.ev c = .bool t) (hx : t = true → AWp P V x Q σ) (hy : t = false → AWp P V y Q σ) : AWp P V (.cond c x y) Q σ := by
  intro C a w hcc
  have h := hcc.ev c
  rw [hc] at h
  simp only [VRep] at h
  exact wp_cond_split h (fun ht => hx ht C a w hcc) (fun ht => hy ht C a w hcc)

theorem AWp.block {id : Nat} {c : Code} (h : AWp P V c (blockQ id Q) σ) : AWp P V (.block id c) Q σ := by
  intro C a w hc
  refine wp_block (wp_mono (h C a w hc) fun e a' w' ⟨σ', C', h1, h2, h3⟩ => ?_)
  cases e with
  | exit i =>
    simp only [blockQ] at h1
    simp only [Exit.inBlock]
    split
    · rename_i hi; rw [if_pos hi] at h1; exact ⟨σ', C', h1, h2, h3⟩
    · rename_i hi; rw [if_neg hi] at h1; exact ⟨σ', C', h1, h2, h3⟩
  | normal => exact ⟨σ', C', h1, h2, h3⟩
  | goto l => exact ⟨σ', C', h1, h2, h3⟩
  | ret => exact ⟨σ', C', h1, h2, h3⟩
  | panic ch => exact ⟨σ', C', h1, h2, h3⟩
  | outgrown => exact ⟨σ', C', h1, h2, h3⟩

/-- σ says no less than σ'. -/
def Le (V : Nat) (σ σ' : St) : Prop := ∀ C a w, Conc σ C a w → ∃ C', Conc σ' C' a w ∧ Gone V w σ.hp C w σ'.hp C'
theorem Le.refl (V : Nat) (σ : St) : Le V σ σ := fun C a w h => ⟨C, h, Gone.refl ..⟩
theorem Le.trans {σ σ1 σ2 : St} (h : Le V σ σ1) (k : Le V σ1 σ2) : Le V σ σ2 := fun C a w hc => by
  obtain ⟨C1, h1, h2⟩ := h C a w hc
  obtain ⟨C2, k1, k2⟩ := k C1 a w h1
  exact ⟨C2, k1, h2.trans k2⟩
theorem AWp.le {c : Code} {σ' : St} (hl : Le V σ σ') (h : AWp P V c Q σ') : AWp P V c Q σ := fun C a w hc => by
  obtain ⟨C', h1, h2⟩ := hl C a w hc
  exact wp_mono (h C' a w h1) fun e a2 w2 ⟨σ2, C2, k1, k2, k3⟩ => ⟨σ2, C2, k1, k2, h2.trans k3⟩

theorem AWp.loop {X : Type} {c : Code} (S : X → St) (μ : X → Nat) (round : ∀ x, AWp P V c (thenQ (fun σ' => ∃ x', μ x' < μ x ∧ Le V σ' (S x')) Q) (S x)) (x0 : X) : AWp P V (.loop c) Q (S x0) := by
  intro C0 a0 w0 hc0
  refine wp_loop_ghost (fun n a w => ∃ x C, μ x = n ∧ Conc (S x) C a w ∧ Gone V w0 (S x0).hp C0 w (S x).hp C) (μ x0) ⟨x0, C0, rfl, hc0, Gone.refl ..⟩ ?_
  rintro n a w ⟨x, C, rfl, hc, hg⟩
  refine wp_mono (round x C a w hc) fun e a' w' ⟨σ', C', h1, h2, h3⟩ => ?_
  cases e with
  | normal =>
    obtain ⟨x', hm, hle⟩ := h1
    obtain ⟨C2, k1, k2⟩ := hle C' a' w' h2
    exact ⟨μ x', hm, x', C2, rfl, k1, (hg.trans h3).trans k2⟩
  | exit id => exact ⟨σ', C', h1, h2, hg.trans h3⟩
  | goto l => exact ⟨σ', C', h1, h2, hg.trans h3⟩
  | ret => exact ⟨σ', C', h1, h2, hg.trans h3⟩
  | panic ch => exact ⟨σ', C', h1, h2, hg.trans h3⟩
  | outgrown => exact ⟨σ', C', h1, h2, hg.trans h3⟩
end

/-! ### Regions in the text's order -/
def wantedA (ops : Array Oper) (o : Oper) (σ : St) : Option Bool :=
  match o.guard with
  | none => some true
  | some (j, want) => match (ops[j]?).bind (·.dst) with
    | some t => if t < σ.nt then (match σ.tm t with
      | .bool b => some (b == want)
      | .und => some false
      | _ => none) else some false
    | none => some false

theorem wantedA_ok {ops : Array Oper} {o : Oper} {σ : St} {C : Co} {a : Act} {w : World} (hc : Conc σ C a w) {b : Bool} (h : wantedA ops o σ = some b) : Region.wanted o (yielded ops a.tmps) = b := by
  unfold wantedA at h
  unfold Region.wanted
  split at h
  · rename_i hg; simp at h; simp [hg, h]
  · rename_i j want hg
    simp only [hg]
    unfold yielded
    split at h
    · rename_i t ht
      simp only [ht, Option.bind_some]
      split at h
      · rename_i hlt
        have hlt' : t < a.tmps.size := by rw [hc.size]; exact hlt
        have hget : a.tmps[t]? = some a.tmps[t] := Array.getElem?_eq_getElem hlt'
        have hv := hc.tmps t _ hget
        rw [hget]
        split at h
        · rename_i b' hb
          rw [hb] at hv; simp only [VRep] at hv
          rw [hv]
          simp at h
          simp [← h]
        · rename_i hb
          rw [hb] at hv; simp only [VRep] at hv
          rw [hv]
          simp at h
          simp [undef, ← h]
        · simp at h
      · have hlt : ¬ t < σ.nt := by assumption
        have hle : a.tmps.size ≤ t := by rw [hc.size]; exact Nat.le_of_not_lt hlt
        have : a.tmps[t]? = none := Array.getElem?_eq_none hle
        simp [this]
        simpa using h
    · rename_i ht
      simp [ht]
      simpa using h

/-- What an operation does in one world. -/
def OpAt (P : Program) (o : Oper) (σ : St) (out : Out) (C : Co) (a : Act) (w : World) : Prop :=
  o.wp P a w (fun a' w' => ∃ C', Conc (σ.app o.dst out) C' a' w' ∧ Ev w σ.hp C w' (writes σ.hp out.ws) C' ∧ Fr w σ.hp C w' (writes σ.hp out.ws) C') (fun _ _ _ => False)
/-- What an operation does in one world, when it may end in one of several ways. -/
def OpX (P : Program) (o : Oper) (σ : St) {I : Type} (outs : I → Out) (C : Co) (a : Act) (w : World) : Prop :=
  o.wp P a w (fun a' w' => ∃ i C', Conc (σ.app o.dst (outs i)) C' a' w' ∧ Ev w σ.hp C w' (writes σ.hp (outs i).ws) C' ∧ Fr w σ.hp C w' (writes σ.hp (outs i).ws) C') (fun _ _ _ => False)
def ARun (P : Program) (ops : Array Oper) (K : St → Prop) : List Oper → St → Prop
  | [], σ => K σ
  | o :: rest, σ => match wantedA ops o σ with
    | some true => ∃ (I : Type) (outs : I → Out), (∀ C a w, Conc σ C a w → OpX P o σ outs C a w) ∧ ∀ i, ARun P ops K rest (σ.app o.dst (outs i))
    | some false => ARun P ops K rest (σ.put o.dst .und)
    | none => False

theorem Oper.wp_monoQ {P : Program} {o : Oper} {a : Act} {w : World} {K : Act → World → Prop} {Q : Exit → Act → World → Prop} (h : o.wp P a w K (fun _ _ _ => False)) : o.wp P a w K Q := by
  unfold Oper.wp at *
  generalize (execOp a.eval o).run P w = r at *
  cases r with
  | ok n w' =>
    cases n <;> simp only [Oper.upon] at h ⊢ <;>
      first
        | exact h
        | exact Calls.mono h (fun e w'' he => by
            cases e with
            | returned v => exact he
            | panicked c => exact he.elim
            | outgrown => obtain ⟨_, _, hf⟩ := he; exact hf.elim)
  | halt x w' => cases x <;> simp only [Oper.upon] at h ⊢

theorem arun_ok {P : Program} {V : Nat} {ops : Array Oper} {K : St → Prop} {Q : Exit → Act → World → Prop} : ∀ (l : List Oper) (k : Nat) (σ : St) (C : Co) (a : Act) (w : World), (∀ j, l[j]? = ops[k + j]?) → Conc σ C a w → ARun P ops K l σ →
    (∀ σ' C' a' w', K σ' → Conc σ' C' a' w' → Gone V w σ.hp C w' σ'.hp C' → Q .normal a' w') → wpOps P ops Q (List.range' k l.length) a w
  | [], k, σ, C, a, w, hl, hc, h, hq => by
    simp only [List.length_nil, List.range'_zero, wpOps]
    exact hq σ C a w h hc (Gone.refl ..)
  | o :: l, k, σ, C, a, w, hl, hc, h, hq => by
    have h0 : ops[k]? = some o := by simpa using (hl 0).symm
    have hl' : ∀ j, l[j]? = ops[k + 1 + j]? := fun j => by have := hl (j + 1); simpa [Nat.add_assoc, Nat.add_comm 1 j] using this
    simp only [List.length_cons, List.range'_succ, wpOps, h0]
    simp only [ARun] at h
    split at h
    · rename_i hw
      rw [wantedA_ok hc hw]
      simp only [if_true]
      obtain ⟨I, outs, h1, h2⟩ := h
      refine .inl (Oper.wp_monoQ (Oper.wp_mono (fun a' w' ⟨i, C', k1, k2, k3⟩ => ?_) (h1 C a w hc)))
      exact arun_ok l (k + 1) _ C' a' w' hl' k1 (h2 i) fun σ2 C2 a2 w2 j1 j2 j3 => hq σ2 C2 a2 w2 j1 j2 ((Gone.mk k3 k2.vev).trans j3)
    · rename_i hw
      rw [wantedA_ok hc hw]
      simp only [Bool.false_eq_true, if_false]
      have hput : Conc (σ.put o.dst .und) C (a.put o.dst undef) w := by
        have := hc.put (v := .und) (u := undef) o.dst (Ev.refl ..) (by simp [VRep]) hc.heap
        simpa [St.put] using (by cases hd : o.dst <;> simpa [St.put, hd] using this : Conc (σ.put o.dst .und) C (a.put o.dst undef) w)
      exact arun_ok l (k + 1) _ C _ w hl' hput h fun σ2 C2 a2 w2 j1 j2 j3 => hq σ2 C2 a2 w2 j1 j2 (by simpa using j3)
    · exact h.elim

theorem AWp.region {P : Program} {V : Nat} {Q : Exit → St → Prop} {σ : St} {id : Nat} {ops : Array Oper} (h : ARun P ops (Q .normal) ops.toList σ) : AWp P V (.region id ops false) Q σ := by
  intro C a w hc
  refine wp_region ?_
  have := arun_ok (V := V) (ops := ops) (K := Q .normal) (Q := fun e a' w' => ∃ σ' C', Q e σ' ∧ Conc σ' C' a' w' ∧ Gone V w σ.hp C w' σ'.hp C') ops.toList 0 σ C a w (by simp) hc h
    fun σ' C' a' w' h1 h2 h3 => ⟨σ', C', h1, h2, h3⟩
  rw [List.range_eq_range']
  simpa using this

/-! ### Calls -/
/-- Results: what a caller comes to own bears the mark 'inn'. -/
def RR (w : World) (hp : Hp) (C : Co) (a : AV) (v : Value) (S : List Nat) : Prop :=
  match a with
  | .sl (.inn e) xs => XRow w e xs v S
  | a => VRep w hp C a v ∧ S = []
def RRs (w : World) (hp : Hp) (C : Co) : List AV → List Value → List Nat → Prop
  | [], vs, S => vs = [] ∧ S = []
  | a :: as, vs, S => ∃ v vs' S1 S2, vs = v :: vs' ∧ S = S1 ++ S2 ∧ RR w hp C a v S1 ∧ RRs w hp C as vs' S2
def R1 (w : World) (hp : Hp) (C : Co) (a : AV) (v : Value) (S : List Nat) : Prop :=
  match a with
  | .agg cs => ∃ vs, v = .agg vs ∧ RRs w hp C cs vs.toList S
  | a => RR w hp C a v S
def R1s (w : World) (hp : Hp) (C : Co) : List AV → List Value → List Nat → Prop
  | [], vs, S => vs = [] ∧ S = []
  | a :: as, vs, S => ∃ v vs' S1 S2, vs = v :: vs' ∧ S = S1 ++ S2 ∧ R1 w hp C a v S1 ∧ R1s w hp C as vs' S2
def R2 (w : World) (hp : Hp) (C : Co) (a : AV) (v : Value) (S : List Nat) : Prop :=
  match a with
  | .tup cs => ∃ vs, v = .tuple vs ∧ R1s w hp C cs vs.toList S
  | a => R1 w hp C a v S

/-- The contract of a function: arguments, what it is handed by reference (blocks 0 .. V-1); the result; those blocks behind it. -/
def Fnd (P : Program) (f : FuncId) : Prop := ∃ fn c, P.funcs[f]? = some fn ∧ (fn.name == "runtime.NumGoroutine") = false ∧ fn.body = some c
def ACall (P : Program) (V : Nat) (f : FuncId) (args : List AV) (hp : Hp) (r : AV) (hp' : Hp) : Prop :=
  Fnd P f ∧ ∀ C w vs, HConc w hp C → VReps w hp C args vs → Calls P f vs.toArray w fun e w' => ∃ v Cq S, e = .returned v ∧ Cq V = ⟨.bool false, S⟩ ∧ hp' V = none ∧
    HConc w' (upd hp' V (some .held)) Cq ∧ Gone V w hp C w' (upd hp' V (some .held)) Cq ∧ R2 w' (upd hp' V (some .held)) Cq r v S

end Go.Al
