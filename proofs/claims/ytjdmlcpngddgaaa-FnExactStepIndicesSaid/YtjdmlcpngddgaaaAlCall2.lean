/- The abstract logic, part 8: calling a function. -/
import Derived.Test.YtjdmlcpngddgaaaAlCall
set_option linter.unusedVariables false
set_option linter.unusedSimpArgs false
namespace Go.Al
open Go Go.RowKit

/-! ### Handing in -/
mutual
def argOk (hp hq : Hp) (f : Nat → Nat) (sn : List Nat) : AV → AV → Prop
  | _, .any => True
  | .int k n, .int k' n' => k = k' ∧ n = n'
  | .bool a, .bool b => a = b
  | .str a, .str b => a = b
  | .nil, .nil => True
  | .nilp, .nilp => True
  | .und, .und => True
  | .nil, .sl .st ys => ys = []
  | .sl .st xs, .sl .st ys => xs = ys
  | .sl (.bor id ver) xs, .sl .st ys => id ∈ sn ∧ live hp (.bor id ver) = true ∧ xs = ys
  | .row id len, .sl .st ys => id ∈ sn ∧ ∃ x ver e xs, hp id = some (.row x ver e xs) ∧ xs.length = len ∧ xs = ys
  | .sl (.bor id ver) xs, .sl (.bor k ver') ys => (hq k).isSome = true ∧ id = f k ∧ ver = ver' ∧ xs = ys
  | .row id len, .row k len' => (hq k).isSome = true ∧ id = f k ∧ len = len'
  | .ptr id off, .ptr k off' => (hq k).isSome = true ∧ id = f k ∧ off = off'
  | .rptr id len i off, .rptr k len' i' off' => (hq k).isSome = true ∧ id = f k ∧ len = len' ∧ i = i' ∧ off = off'
  | .iptr .st cs, .iptr .st ds => cs = ds
  | .agg as, .agg ps => argsOk hp hq f sn as ps
  | .tup as, .tup ps => argsOk hp hq f sn as ps
  | .fn g as, .fn h ps => g = h ∧ argsOk hp hq f sn as ps
  | _, _ => False
def argsOk (hp hq : Hp) (f : Nat → Nat) (sn : List Nat) : List AV → List AV → Prop
  | [], [] => True
  | a :: as, p :: ps => argOk hp hq f sn a p ∧ argsOk hp hq f sn as ps
  | _, _ => False
end

def blkOk (hp hq : Hp) (f : Nat → Nat) (sn : List Nat) : Blk → Blk → Prop
  | .dead, .dead => True
  | .held, .held => True
  | .box cs, .box ds => argsOk hp hq f sn cs ds
  | .row x ver e xs, .row x' ver' e' xs' => x = x' ∧ ver = ver' ∧ e = e' ∧ xs = xs'
  | _, _ => False

/-- The callee's sight of the caller's memory. -/
structure Into (w : World) (hp : Hp) (C : Co) (hq : Hp) (Cq : Co) (f : Nat → Nat) (sn : List Nat) : Prop where
  H : HConc w hp C
  stab : ∀ b, Stab hp C w b → Stab hq Cq w b
  snap : ∀ id ∈ sn, hp id ≠ none → ∀ b ∈ (C id).S, Stab hq Cq w b
  ids : ∀ k, (hq k).isSome = true → ∃ blk blk' sn', hp (f k) = some blk ∧ hq k = some blk' ∧ blkOk hp hq f sn' blk blk' ∧ Cq k = C (f k)

mutual
theorem argOk_rep {w : World} {hp hq : Hp} {C Cq : Co} {f : Nat → Nat} {sn : List Nat} (I : Into w hp C hq Cq f sn) : ∀ {a p : AV} {v : Value}, VRep w hp C a v → argOk hp hq f sn a p → VRep w hq Cq p v
  | a, .any, v, hv, h => by simp [VRep]
  | a, .int k n, v, hv, h => by
    cases a <;> simp only [argOk] at h
    obtain ⟨rfl, rfl⟩ := h; simpa [VRep] using hv
  | a, .bool b, v, hv, h => by
    cases a <;> simp only [argOk] at h
    subst h; simpa [VRep] using hv
  | a, .str b, v, hv, h => by
    cases a <;> simp only [argOk] at h
    subst h; simpa [VRep] using hv
  | a, .nil, v, hv, h => by
    cases a <;> simp only [argOk] at h
    simpa [VRep] using hv
  | a, .nilp, v, hv, h => by
    cases a <;> simp only [argOk] at h
    simpa [VRep] using hv
  | a, .und, v, hv, h => by
    cases a <;> simp only [argOk] at h
    simpa [VRep] using hv
  | a, .sl m ys, v, hv, h => by
    cases m with
    | inn e => cases a <;> simp [argOk] at h
    | bor k ver' =>
      cases a with
      | sl m xs =>
        cases m <;> simp only [argOk] at h
        obtain ⟨h1, rfl, rfl, rfl⟩ := h
        obtain ⟨blk, blk', sn', h2, h3, h4, h5⟩ := I.ids k h1
        simp only [VRep, MF, h2, h3, h5] at hv ⊢
        refine ⟨hv.1, ?_⟩
        replace hv := hv.2
        cases blk <;> cases blk' <;> simp only [blkOk] at h4 hv ⊢ <;> try exact hv
        obtain ⟨rfl, rfl, rfl, rfl⟩ := h4
        exact ⟨hv.1, fun e => (hv.2 e).mono fun b hb => ⟨hb.imp _root_.id (I.stab b), rfl⟩⟩
      | _ => simp [argOk] at h
    | st =>
      cases a with
      | nil =>
        simp only [argOk] at h; subst h
        simp only [VRep] at hv; subst hv
        simp only [VRep, MF]
        exact ⟨⟨_, _, _, rfl⟩, .sl (e := 1) [] (by simp) (by simp) (by simp) rfl (by simp) (by simp)⟩
      | sl m xs =>
        cases m with
        | inn e => simp [argOk] at h
        | st =>
          simp only [argOk] at h; subst h
          simp only [VRep, MF] at hv ⊢
          exact ⟨hv.1, hv.2.mono fun b hb => ⟨I.stab b hb, rfl⟩⟩
        | bor id ver =>
          simp only [argOk] at h
          obtain ⟨h1, h2, rfl⟩ := h
          simp only [VRep, MF] at hv ⊢
          simp only [live] at h2
          split at h2
          · rename_i x ver' e zs hi
            have hve : ver' = ver := by simpa using h2
            rw [hi] at hv
            refine ⟨hv.1, (hv.2.2 hve).mono fun b hb => ⟨?_, rfl⟩⟩
            rcases hb with hb | hb
            · exact I.snap id h1 (by simp [hi]) b hb
            · exact I.stab b hb
          · simp at h2
      | row id len =>
        simp only [argOk] at h
        obtain ⟨h1, x, ver, e, xs, hi, hl, rfl⟩ := h
        have hd := low_d (x := false) (ids := [id]) (d := .sl xs) I.H hv (by cases x <;> simp [low, hi, hl])
        have hshape : ∃ A n c, v = .slice A n c := by simp only [VRep, hi] at hv; exact hv.1
        simp only [VRep, MF]
        refine ⟨hshape, hd.mono fun b hb => ⟨?_, rfl⟩⟩
        rcases hb with hb | hb
        · exact I.stab b hb
        · simp only [SS, List.flatMap_cons, List.flatMap_nil, List.append_nil] at hb
          exact I.snap id h1 (by simp [hi]) b hb
      | _ => simp [argOk] at h
  | a, .row k len', v, hv, h => by
    cases a <;> simp only [argOk] at h
    obtain ⟨h1, rfl, rfl⟩ := h
    obtain ⟨blk, blk', sn', h2, h3, h4, h5⟩ := I.ids k h1
    simp only [VRep, h2, h3, h5] at hv ⊢
    cases blk <;> cases blk' <;> simp only [blkOk] at h4 hv ⊢ <;> try exact hv
    obtain ⟨rfl, rfl, rfl, rfl⟩ := h4
    exact hv
  | a, .ptr k off', v, hv, h => by
    cases a <;> simp only [argOk] at h
    obtain ⟨h1, rfl, rfl⟩ := h
    obtain ⟨blk, blk', sn', h2, h3, h4, h5⟩ := I.ids k h1
    simp only [VRep, h2, h3, h5] at hv ⊢
    cases blk <;> cases blk' <;> simp only [blkOk] at h4 hv ⊢ <;> exact hv
  | a, .cel k len' i' off', v, hv, h => by
    cases a <;> simp [argOk] at h
  | a, .rptr k len' i' off', v, hv, h => by
    cases a <;> simp only [argOk] at h
    obtain ⟨h1, rfl, rfl, rfl, rfl⟩ := h
    obtain ⟨blk, blk', sn', h2, h3, h4, h5⟩ := I.ids k h1
    simp only [VRep, h2, h3, h5] at hv ⊢
    cases blk <;> cases blk' <;> simp only [blkOk] at h4 hv ⊢ <;> try exact hv
    obtain ⟨rfl, rfl, rfl, rfl⟩ := h4
    exact hv
  | a, .iptr m ds, v, hv, h => by
    cases a with
    | iptr m' cs =>
      cases m' <;> cases m <;> simp only [argOk] at h
      subst h
      simp only [VRep, MF] at hv ⊢
      obtain ⟨h1, ad, h2, h3⟩ := hv
      exact ⟨h1, ad, h2, h3.mono fun b hb => ⟨I.stab b hb, rfl⟩⟩
    | _ => cases m <;> simp [argOk] at h
  | a, .agg ps, v, hv, h => by
    cases a <;> simp only [argOk] at h
    simp only [VRep] at hv ⊢
    obtain ⟨vs, h1, h2⟩ := hv
    exact ⟨vs, h1, argsOk_rep I h2 h⟩
  | a, .tup ps, v, hv, h => by
    cases a <;> simp only [argOk] at h
    simp only [VRep] at hv ⊢
    obtain ⟨vs, h1, h2⟩ := hv
    exact ⟨vs, h1, argsOk_rep I h2 h⟩
  | a, .fn g ps, v, hv, h => by
    cases a <;> simp only [argOk] at h
    obtain ⟨rfl, h⟩ := h
    simp only [VRep] at hv ⊢
    obtain ⟨vs, h1, h2⟩ := hv
    exact ⟨vs, h1, argsOk_rep I h2 h⟩
theorem argsOk_rep {w : World} {hp hq : Hp} {C Cq : Co} {f : Nat → Nat} {sn : List Nat} (I : Into w hp C hq Cq f sn) : ∀ {as ps : List AV} {vs : List Value}, VReps w hp C as vs → argsOk hp hq f sn as ps → VReps w hq Cq ps vs
  | [], [], vs, hv, h => by simpa [VReps] using hv
  | [], p :: ps, vs, hv, h => by simp [argsOk] at h
  | a :: as, [], vs, hv, h => by simp [argsOk] at h
  | a :: as, p :: ps, vs, hv, h => by
    simp only [VReps] at hv ⊢
    obtain ⟨v, vs', rfl, h1, h2⟩ := hv
    simp only [argsOk] at h
    exact ⟨v, vs', rfl, argOk_rep I h1 h.1, argsOk_rep I h2 h.2⟩
end

/-! ### Handing back -/
def Md.ren (f : Nat → Nat) : Md → Md
  | .bor id ver => .bor (f id) ver
  | m => m
mutual
def AV.ren (f : Nat → Nat) : AV → AV
  | .sl m xs => .sl (m.ren f) xs
  | .iptr m cs => .iptr (m.ren f) cs
  | .row id len => .row (f id) len
  | .ptr id off => .ptr (f id) off
  | .rptr id len i off => .rptr (f id) len i off
  | .cel id len ver k => .cel (f id) len ver k
  | .agg cs => .agg (AV.renL f cs)
  | .tup cs => .tup (AV.renL f cs)
  | .fn g cs => .fn g (AV.renL f cs)
  | a => a
def AV.renL (f : Nat → Nat) : List AV → List AV
  | [] => []
  | a :: as => AV.ren f a :: AV.renL f as
end
mutual
/-- No part lies in stable or lent memory. -/
def AV.flat : AV → Bool
  | .sl (.inn _) _ => true
  | .sl _ _ => false
  | .iptr _ _ => false
  | .agg cs => AV.flats cs
  | .tup cs => AV.flats cs
  | .fn _ cs => AV.flats cs
  | _ => true
def AV.flats : List AV → Bool
  | [] => true
  | a :: as => AV.flat a && AV.flats as
end
def Blk.ren (f : Nat → Nat) : Blk → Blk
  | .box cells => .box (AV.renL f cells)
  | b => b
def Blk.flat : Blk → Bool
  | .box cells => AV.flats cells
  | .row x _ _ _ => x
  | _ => true

structure Back (w : World) (hq : Hp) (Cq : Co) (hp : Hp) (C : Co) (f : Nat → Nat) (V : Nat) (st : Bool) : Prop where
  stab : st = true → ∀ b, Stab hq Cq w b → Stab hp C w b
  ids : ∀ k, k < V → ∀ blk, hq k = some blk → hp (f k) = some (blk.ren f) ∧ C (f k) = Cq k

theorem MF.back {w : World} {hq hp : Hp} {Cq C : Co} {f : Nat → Nat} {V : Nat} (B : Back w hq Cq hp C f V true) {m : Md} {p : (Nat → Prop) → Prop} (hm : ∀ id ver, m = .bor id ver → id < V)
    (hpp : ∀ F F' : Nat → Prop, (∀ b, F b → F' b) → p F → p F') (h : MF w hq Cq m p) : MF w hp C (m.ren f) p := by
  cases m with
  | st => exact hpp _ _ (B.stab rfl) h
  | inn e => exact h
  | bor id ver =>
    simp only [MF, Md.ren] at h ⊢
    split at h
    · rename_i x ver' e xs hi
      obtain ⟨h1, h2⟩ := B.ids id (hm id ver rfl) _ hi
      rw [h1, h2]
      simp only [Blk.ren]
      exact ⟨h.1, fun hv => hpp _ _ (fun b hb => hb.imp _root_.id (B.stab rfl b)) (h.2 hv)⟩
    · rename_i hi
      obtain ⟨h1, h2⟩ := B.ids id (hm id ver rfl) _ hi
      rw [h1]; simp only [Blk.ren]
    · exact h.elim

mutual
theorem VRep.back {w : World} {hq hp : Hp} {Cq C : Co} {f : Nat → Nat} {V : Nat} {st : Bool} (B : Back w hq Cq hp C f V st) : ∀ {a : AV} {v : Value}, (∀ id ∈ a.refs, id < V) → (st = true ∨ a.flat = true) → VRep w hq Cq a v → VRep w hp C (a.ren f) v
  | .any, _, _, _, _ => by simp [VRep, AV.ren]
  | .und, v, _, _, h => by simpa [VRep, AV.ren] using h
  | .int k n, v, _, _, h => by simpa [VRep, AV.ren] using h
  | .bool b, v, _, _, h => by simpa [VRep, AV.ren] using h
  | .str s, v, _, _, h => by simpa [VRep, AV.ren] using h
  | .nil, v, _, _, h => by simpa [VRep, AV.ren] using h
  | .nilp, v, _, _, h => by simpa [VRep, AV.ren] using h
  | .sl m xs, v, hr, hst, h => by
    simp only [VRep, AV.ren] at h ⊢
    cases m with
    | inn e => exact ⟨h.1, h.2⟩
    | st =>
      have : st = true := by simpa [AV.flat] using hst
      subst this
      exact ⟨h.1, MF.back B (m := .st) (fun id ver hm => by simp at hm) (fun F F' hF hd => hd.mono fun b hb => ⟨hF b hb, rfl⟩) h.2⟩
    | bor id ver =>
      have : st = true := by simpa [AV.flat] using hst
      subst this
      exact ⟨h.1, MF.back B (m := .bor id ver) (fun i ver' hm => by cases hm; exact hr id (by simp [AV.refs])) (fun F F' hF hd => hd.mono fun b hb => ⟨hF b hb, rfl⟩) h.2⟩
  | .iptr m cs, v, hr, hst, h => by
    have : st = true := by simpa [AV.flat] using hst
    subst this
    simp only [VRep, AV.ren] at h ⊢
    exact ⟨h.1, MF.back B (fun i ver' hm => by subst hm; exact hr i (by simp [AV.refs])) (fun F F' hF ⟨ad, h1, h2⟩ => ⟨ad, h1, h2.mono fun b hb => ⟨hF b hb, rfl⟩⟩) h.2⟩
  | .row id len, v, hr, _, h => by
    have hb := B.ids id (hr id (by simp [AV.refs]))
    simp only [VRep, AV.ren] at h ⊢
    cases hi : hq id with
    | none => simp [hi] at h
    | some blk =>
      obtain ⟨h1, h2⟩ := hb blk hi
      rw [hi] at h; rw [h1, h2]
      cases blk <;> simp only [Blk.ren] at h ⊢ <;> exact h
  | .ptr id off, v, hr, _, h => by
    have hb := B.ids id (hr id (by simp [AV.refs]))
    simp only [VRep, AV.ren] at h ⊢
    cases hi : hq id with
    | none => simp [hi] at h
    | some blk =>
      obtain ⟨h1, h2⟩ := hb blk hi
      rw [hi] at h; rw [h1, h2]
      cases blk <;> simp only [Blk.ren] at h ⊢ <;> exact h
  | .cel id len ver k, v, hr, _, h => by
    have hb := B.ids id (hr id (by simp [AV.refs]))
    simp only [VRep, AV.ren] at h ⊢
    cases hi : hq id with
    | none => simp [hi] at h
    | some blk =>
      obtain ⟨h1, h2⟩ := hb blk hi
      rw [hi] at h; rw [h1, h2]
      cases blk <;> simp only [Blk.ren] at h ⊢ <;> exact h
  | .rptr id len i off, v, hr, _, h => by
    have hb := B.ids id (hr id (by simp [AV.refs]))
    simp only [VRep, AV.ren] at h ⊢
    cases hi : hq id with
    | none => simp [hi] at h
    | some blk =>
      obtain ⟨h1, h2⟩ := hb blk hi
      rw [hi] at h; rw [h1, h2]
      cases blk <;> simp only [Blk.ren] at h ⊢ <;> exact h
  | .agg cs, v, hr, hst, h => by
    simp only [VRep, AV.ren] at h ⊢
    obtain ⟨vs, h1, h2⟩ := h
    exact ⟨vs, h1, VReps.back B (fun id hid => hr id (by simpa [AV.refs] using hid)) (by simpa [AV.flat] using hst) h2⟩
  | .tup cs, v, hr, hst, h => by
    simp only [VRep, AV.ren] at h ⊢
    obtain ⟨vs, h1, h2⟩ := h
    exact ⟨vs, h1, VReps.back B (fun id hid => hr id (by simpa [AV.refs] using hid)) (by simpa [AV.flat] using hst) h2⟩
  | .fn g cs, v, hr, hst, h => by
    simp only [VRep, AV.ren] at h ⊢
    obtain ⟨vs, h1, h2⟩ := h
    exact ⟨vs, h1, VReps.back B (fun id hid => hr id (by simpa [AV.refs] using hid)) (by simpa [AV.flat] using hst) h2⟩
theorem VReps.back {w : World} {hq hp : Hp} {Cq C : Co} {f : Nat → Nat} {V : Nat} {st : Bool} (B : Back w hq Cq hp C f V st) : ∀ {as : List AV} {vs : List Value}, (∀ id ∈ AV.refsL as, id < V) → (st = true ∨ AV.flats as = true) → VReps w hq Cq as vs → VReps w hp C (AV.renL f as) vs
  | [], vs, _, _, h => by simpa [VReps, AV.renL] using h
  | a :: as, vs, hr, hst, h => by
    simp only [VReps, AV.renL] at h ⊢
    obtain ⟨v, vs', h1, h2, h3⟩ := h
    simp only [AV.flats, Bool.and_eq_true] at hst
    exact ⟨v, vs', h1, VRep.back B (fun id hid => hr id (by simp [AV.refsL, hid])) (hst.imp _root_.id And.left) h2, VReps.back B (fun id hid => hr id (by simp [AV.refsL, hid])) (hst.imp _root_.id And.right) h3⟩
end

def news1 : AV → List Blk
  | .sl (.inn e) xs => [.row true 0 e xs]
  | _ => []
def imp1 (f : Nat → Nat) (N : Nat) : AV → AV
  | .sl (.inn e) xs => .row N xs.length
  | a => a.ren f
def newss : List AV → List Blk
  | [] => []
  | a :: as => news1 a ++ newss as
def imps (f : Nat → Nat) (N : Nat) : List AV → List AV
  | [] => []
  | a :: as => imp1 f N a :: imps f (N + (news1 a).length) as
def newsA : AV → List Blk
  | .agg cs => newss cs
  | a => news1 a
def impA (f : Nat → Nat) (N : Nat) : AV → AV
  | .agg cs => .agg (imps f N cs)
  | a => imp1 f N a
def newsAs : List AV → List Blk
  | [] => []
  | a :: as => newsA a ++ newsAs as
def impAs (f : Nat → Nat) (N : Nat) : List AV → List AV
  | [] => []
  | a :: as => impA f N a :: impAs f (N + (newsA a).length) as
def newsT : AV → List Blk
  | .tup cs => newsAs cs
  | a => newsA a
def impT (f : Nat → Nat) (N : Nat) : AV → AV
  | .tup cs => .tup (impAs f N cs)
  | a => impA f N a

def NewOk (w : World) (blk : Blk) (cb : CB) : Prop := ∃ e xs, blk = .row true 0 e xs ∧ XRow w e xs cb.v cb.S
def Imp (w : World) (hq : Hp) (Cq : Co) (f : Nat → Nat) (V : Nat) (st : Bool) (bs : List Blk) (S : List Nat) (K : Nat → Hp → Co → Prop) : Prop :=
  ∃ cbs : List CB, cbs.length = bs.length ∧ cbs.flatMap (·.S) = S ∧ (∀ (i : Nat) (blk : Blk) (cb : CB), bs[i]? = some blk → cbs[i]? = some cb → NewOk w blk cb) ∧
    ∀ N hp2 C2, Back w hq Cq hp2 C2 f V st → (∀ (i : Nat) (blk : Blk), bs[i]? = some blk → hp2 (N + i) = some blk) → (∀ (i : Nat) (cb : CB), cbs[i]? = some cb → C2 (N + i) = cb) → K N hp2 C2

section
variable {w : World} {hq : Hp} {Cq : Co} {f : Nat → Nat} {V : Nat} {st : Bool}
theorem Imp.append {b1 b2 : List Blk} {S1 S2 : List Nat} {K1 K2 : Nat → Hp → Co → Prop} (h1 : Imp w hq Cq f V st b1 S1 K1) (h2 : Imp w hq Cq f V st b2 S2 K2) :
    Imp w hq Cq f V st (b1 ++ b2) (S1 ++ S2) (fun N hp C => K1 N hp C ∧ K2 (N + b1.length) hp C) := by
  obtain ⟨c1, l1, s1, n1, k1⟩ := h1
  obtain ⟨c2, l2, s2, n2, k2⟩ := h2
  refine ⟨c1 ++ c2, by simp [l1, l2], by simp [s1, s2], fun i blk cb hb hc => ?_, fun N hp2 C2 B hh hc => ⟨k1 N hp2 C2 B (fun i blk hi => hh i blk ?_) (fun i cb hi => hc i cb ?_), k2 _ hp2 C2 B (fun i blk hi => ?_) (fun i cb hi => ?_)⟩⟩
  · by_cases hi : i < b1.length
    · rw [List.getElem?_append_left hi] at hb
      rw [List.getElem?_append_left (by omega)] at hc
      exact n1 i blk cb hb hc
    · rw [List.getElem?_append_right (by omega)] at hb
      rw [List.getElem?_append_right (by omega), l1] at hc
      exact n2 _ blk cb hb hc
  · rw [List.getElem?_append_left (List.getElem?_eq_some_iff.1 hi).1]; exact hi
  · rw [List.getElem?_append_left (List.getElem?_eq_some_iff.1 hi).1]; exact hi
  · rw [Nat.add_assoc]
    exact hh _ blk (by rw [List.getElem?_append_right (by omega)]; simpa using hi)
  · rw [Nat.add_assoc]
    exact hc _ cb (by rw [List.getElem?_append_right (by omega), l1]; simpa using hi)
theorem Imp.mono {b : List Blk} {S : List Nat} {K K' : Nat → Hp → Co → Prop} (h : Imp w hq Cq f V st b S K) (hk : ∀ N hp C, K N hp C → K' N hp C) : Imp w hq Cq f V st b S K' := by
  obtain ⟨c, l, s, n, k⟩ := h
  exact ⟨c, l, s, n, fun N hp C h1 h2 h3 => hk _ _ _ (k N hp C h1 h2 h3)⟩
theorem Imp.none {K : Nat → Hp → Co → Prop} (h : ∀ N hp2 C2, Back w hq Cq hp2 C2 f V st → K N hp2 C2) : Imp w hq Cq f V st [] [] K :=
  ⟨[], rfl, rfl, fun i blk cb h => by simp at h, fun N hp2 C2 B _ _ => h N hp2 C2 B⟩

theorem imp_1 {a : AV} {v : Value} {S : List Nat} (h : RR w hq Cq a v S) (hr : ∀ id ∈ a.refs, id < V) (hst : st = true ∨ a.flat = true) :
    Imp w hq Cq f V st (news1 a) S fun N hp C => VRep w hp C (imp1 f N a) v := by
  unfold RR at h
  split at h
  · rename_i e xs
    refine ⟨[⟨v, S⟩], rfl, by simp, fun i blk cb hb hc => ?_, fun N hp2 C2 B hh hc => ?_⟩
    · simp only [news1] at hb
      cases i with
      | zero => simp at hb hc; subst hb; subst hc; exact ⟨e, xs, rfl, h⟩
      | succ i => simp at hb
    · have h1 := hh 0 (.row true 0 e xs) rfl
      have h2 := hc 0 _ rfl
      simp only [Nat.add_zero] at h1 h2
      simp only [imp1, VRep, h1, h2]
      have hx := h.rep.read
      exact ⟨by cases hx; exact ⟨_, _, _, rfl⟩, Nat.le_refl _, fun _ => trivial⟩
  · rename_i hne
    obtain ⟨h, rfl⟩ := h
    have e1 : news1 a = [] := by unfold news1; split <;> first | rfl | (exfalso; exact hne _ _ rfl)
    rw [e1]
    refine Imp.none fun N hp2 C2 B => ?_
    have e2 : imp1 f N a = a.ren f := by unfold imp1; split <;> first | rfl | (exfalso; exact hne _ _ rfl)
    rw [e2]
    exact VRep.back B hr hst h
theorem imp_s : ∀ {as : List AV} {vs : List Value} {S : List Nat}, RRs w hq Cq as vs S → (∀ id ∈ AV.refsL as, id < V) → (st = true ∨ AV.flats as = true) →
    Imp w hq Cq f V st (newss as) S fun N hp C => VReps w hp C (imps f N as) vs
  | [], vs, S, h, hr, hst => by
    obtain ⟨rfl, rfl⟩ := h
    exact Imp.none fun N hp2 C2 B => by simp [imps, VReps]
  | a :: as, vs, S, h, hr, hst => by
    obtain ⟨v, vs', S1, S2, rfl, rfl, h1, h2⟩ := h
    simp only [AV.flats, Bool.and_eq_true] at hst
    refine ((imp_1 h1 (fun id hid => hr id (by simp [AV.refsL, hid])) (hst.imp _root_.id And.left)).append (imp_s h2 (fun id hid => hr id (by simp [AV.refsL, hid])) (hst.imp _root_.id And.right))).mono fun N hp C ⟨k1, k2⟩ => ?_
    simp only [imps, VReps]
    exact ⟨v, vs', rfl, k1, k2⟩
theorem imp_A {a : AV} {v : Value} {S : List Nat} (h : R1 w hq Cq a v S) (hr : ∀ id ∈ a.refs, id < V) (hst : st = true ∨ a.flat = true) :
    Imp w hq Cq f V st (newsA a) S fun N hp C => VRep w hp C (impA f N a) v := by
  unfold R1 at h
  split at h
  · obtain ⟨vs, rfl, h⟩ := h
    refine (imp_s h (by simpa [AV.refs] using hr) (by simpa [AV.flat] using hst)).mono fun N hp C k => ?_
    simp only [impA, VRep]
    exact ⟨vs, rfl, k⟩
  · rename_i hne
    have e1 : newsA a = news1 a := by unfold newsA; split <;> first | rfl | (exfalso; exact hne _ rfl)
    rw [e1]
    refine (imp_1 h hr hst).mono fun N hp C k => ?_
    have e2 : impA f N a = imp1 f N a := by unfold impA; split <;> first | rfl | (exfalso; exact hne _ rfl)
    rw [e2]; exact k
theorem imp_As : ∀ {as : List AV} {vs : List Value} {S : List Nat}, R1s w hq Cq as vs S → (∀ id ∈ AV.refsL as, id < V) → (st = true ∨ AV.flats as = true) →
    Imp w hq Cq f V st (newsAs as) S fun N hp C => VReps w hp C (impAs f N as) vs
  | [], vs, S, h, hr, hst => by
    obtain ⟨rfl, rfl⟩ := h
    exact Imp.none fun N hp2 C2 B => by simp [impAs, VReps]
  | a :: as, vs, S, h, hr, hst => by
    obtain ⟨v, vs', S1, S2, rfl, rfl, h1, h2⟩ := h
    simp only [AV.flats, Bool.and_eq_true] at hst
    refine ((imp_A h1 (fun id hid => hr id (by simp [AV.refsL, hid])) (hst.imp _root_.id And.left)).append (imp_As h2 (fun id hid => hr id (by simp [AV.refsL, hid])) (hst.imp _root_.id And.right))).mono fun N hp C ⟨k1, k2⟩ => ?_
    simp only [impAs, VReps]
    exact ⟨v, vs', rfl, k1, k2⟩
theorem imp_T {a : AV} {v : Value} {S : List Nat} (h : R2 w hq Cq a v S) (hr : ∀ id ∈ a.refs, id < V) (hst : st = true ∨ a.flat = true) :
    Imp w hq Cq f V st (newsT a) S fun N hp C => VRep w hp C (impT f N a) v := by
  unfold R2 at h
  split at h
  · obtain ⟨vs, rfl, h⟩ := h
    refine (imp_As h (by simpa [AV.refs] using hr) (by simpa [AV.flat] using hst)).mono fun N hp C k => ?_
    simp only [impT, VRep]
    exact ⟨vs, rfl, k⟩
  · rename_i hne
    have e1 : newsT a = newsA a := by unfold newsT; split <;> first | rfl | (exfalso; exact hne _ rfl)
    rw [e1]
    refine (imp_A h hr hst).mono fun N hp C k => ?_
    have e2 : impT f N a = impA f N a := by unfold impT; split <;> first | rfl | (exfalso; exact hne _ rfl)
    rw [e2]; exact k
end

end Go.Al
