/- The abstract logic, part 7: entering a function, leaving it, calling one. -/
import Derived.Test.YtjdmlcpngddgaaaAlCode
set_option linter.unusedVariables false
set_option linter.unusedSimpArgs false
namespace Go.Al
open Go Go.RowKit

mutual
def AV.refs : AV → List Nat
  | .sl (.bor id _) _ => [id]
  | .iptr (.bor id _) _ => [id]
  | .row id _ => [id]
  | .ptr id _ => [id]
  | .rptr id _ _ _ => [id]
  | .cel id _ _ _ => [id]
  | .agg cs => AV.refsL cs
  | .tup cs => AV.refsL cs
  | .fn _ cs => AV.refsL cs
  | _ => []
def AV.refsL : List AV → List Nat
  | [] => []
  | a :: as => AV.refs a ++ AV.refsL as
end

/-- From one heap to another that has less, or says the same. -/
structure Sub (w : World) (hp : Hp) (C : Co) (hp' : Hp) (C' : Co) : Prop where
  stab : ∀ b, Stab hp C w b → Stab hp' C' w b
theorem MF.sub {w : World} {hp hp' : Hp} {C C' : Co} (E : Sub w hp C hp' C') {m : Md} {p : (Nat → Prop) → Prop} (hm : ∀ id ver, m = .bor id ver → hp' id = hp id ∧ C' id = C id)
    (hpp : ∀ F F' : Nat → Prop, (∀ b, F b → F' b) → p F → p F') (h : MF w hp C m p) : MF w hp' C' m p := by
  cases m with
  | st => exact hpp _ _ E.stab h
  | inn e => exact h
  | bor id ver =>
    obtain ⟨h1, h2⟩ := hm id ver rfl
    simp only [MF] at h ⊢
    rw [h1, h2]
    split at h
    · rename_i x ver' e xs hi
      exact ⟨h.1, fun hv => hpp _ _ (fun b hb => hb.imp _root_.id (E.stab b)) (h.2 hv)⟩
    · trivial
    · exact h.elim

mutual
theorem VRep.sub {w : World} {hp hp' : Hp} {C C' : Co} (E : Sub w hp C hp' C') : ∀ {a : AV} {v : Value}, (∀ id ∈ a.refs, hp' id = hp id ∧ C' id = C id) → VRep w hp C a v → VRep w hp' C' a v
  | .any, _, _, _ => by simp [VRep]
  | .und, v, _, h => by simpa [VRep] using h
  | .int k n, v, _, h => by simpa [VRep] using h
  | .bool b, v, _, h => by simpa [VRep] using h
  | .str s, v, _, h => by simpa [VRep] using h
  | .nil, v, _, h => by simpa [VRep] using h
  | .nilp, v, _, h => by simpa [VRep] using h
  | .sl m xs, v, hr, h => by
    simp only [VRep] at h ⊢
    exact ⟨h.1, MF.sub E (fun id ver hm => by subst hm; exact hr id (by simp [AV.refs])) (fun F F' hF hd => hd.mono fun b hb => ⟨hF b hb, rfl⟩) h.2⟩
  | .iptr m cs, v, hr, h => by
    simp only [VRep] at h ⊢
    exact ⟨h.1, MF.sub E (fun id ver hm => by subst hm; exact hr id (by simp [AV.refs])) (fun F F' hF ⟨ad, h1, h2⟩ => ⟨ad, h1, h2.mono fun b hb => ⟨hF b hb, rfl⟩⟩) h.2⟩
  | .row id len, v, hr, h => by
    obtain ⟨h1, h2⟩ := hr id (by simp [AV.refs])
    simp only [VRep] at h ⊢
    rw [h1, h2]; exact h
  | .ptr id off, v, hr, h => by
    obtain ⟨h1, h2⟩ := hr id (by simp [AV.refs])
    simp only [VRep] at h ⊢
    rw [h1, h2]; exact h
  | .cel id len ver k, v, hr, h => by
    obtain ⟨h1, h2⟩ := hr id (by simp [AV.refs])
    simp only [VRep] at h ⊢
    rw [h1, h2]; exact h
  | .rptr id len i off, v, hr, h => by
    obtain ⟨h1, h2⟩ := hr id (by simp [AV.refs])
    simp only [VRep] at h ⊢
    rw [h1, h2]; exact h
  | .agg cs, v, hr, h => by
    simp only [VRep] at h ⊢
    obtain ⟨vs, h1, h2⟩ := h
    exact ⟨vs, h1, VReps.sub E (fun id hid => hr id (by simpa [AV.refs] using hid)) h2⟩
  | .tup cs, v, hr, h => by
    simp only [VRep] at h ⊢
    obtain ⟨vs, h1, h2⟩ := h
    exact ⟨vs, h1, VReps.sub E (fun id hid => hr id (by simpa [AV.refs] using hid)) h2⟩
  | .fn g cs, v, hr, h => by
    simp only [VRep] at h ⊢
    obtain ⟨vs, h1, h2⟩ := h
    exact ⟨vs, h1, VReps.sub E (fun id hid => hr id (by simpa [AV.refs] using hid)) h2⟩
theorem VReps.sub {w : World} {hp hp' : Hp} {C C' : Co} (E : Sub w hp C hp' C') : ∀ {as : List AV} {vs : List Value}, (∀ id ∈ AV.refsL as, hp' id = hp id ∧ C' id = C id) → VReps w hp C as vs → VReps w hp' C' as vs
  | [], vs, _, h => by simpa [VReps] using h
  | a :: as, vs, hr, h => by
    simp only [VReps] at h ⊢
    obtain ⟨v, vs', h1, h2, h3⟩ := h
    exact ⟨v, vs', h1, VRep.sub E (fun id hid => hr id (by simp [AV.refsL, hid])) h2, VReps.sub E (fun id hid => hr id (by simp [AV.refsL, hid])) h3⟩
end

def Blk.refs : Blk → List Nat
  | .box cells => AV.refsL cells
  | _ => []

theorem BRep.sub {w : World} {hp hp' : Hp} {C C' : Co} (E : Sub w hp C hp' C') {id : Nat} {blk : Blk} (h : BRep w hp C id blk) (hC : C' id = C id) (hr : ∀ i ∈ blk.refs, hp' i = hp i ∧ C' i = C i) : BRep w hp' C' id blk := by
  cases blk with
  | dead => simp [BRep] at h ⊢; rw [hC]; exact h
  | held => simp only [BRep] at h ⊢; rw [hC]; exact h
  | box cells =>
    obtain ⟨b, arr, te, h1, h2, h3, h4⟩ := h
    exact ⟨b, arr, te, by rw [hC]; exact h1, by rw [hC]; exact h2, h3, VReps.sub E (by simpa [Blk.refs] using hr) h4⟩
  | row x ver e xs =>
    simp only [BRep] at h ⊢
    rw [hC]
    split
    · rename_i hx; simp only [hx, if_true] at h; exact h
    · rename_i hx; simp only [hx] at h
      obtain ⟨h1, h2, h3, te, vals, own, h4⟩ := h
      exact ⟨h1, h2, h3, te, vals, own, fun j d u hd hu => (h4 j d u hd hu).mono fun b hb => ⟨E.stab b hb, rfl⟩⟩

/-! ### Leaving -/
def expOk (V : Nat) (hp : Hp) : AV → AV → Prop
  | .nil, .sl (.inn e) xs => xs = [] ∧ 0 < e
  | .nil, .sl .st xs => xs = []
  | .nil, .nil => True
  | .row id len, .sl (.inn e) xs => V ≤ id ∧ ∃ ver ys, hp id = some (.row true ver e ys) ∧ ys.length = len ∧ ys = xs
  | .row id len, .sl .st xs => V ≤ id ∧ ∃ y ver e ys, hp id = some (.row y ver e ys) ∧ ys.length = len ∧ ys = xs
  | .sl .st ys, .sl .st xs => ys = xs
  | .sl (.bor id ver) ys, .sl .st xs => V ≤ id ∧ live hp (.bor id ver) = true ∧ ys = xs
  | .ptr id off, .ptr id' off' => id < V ∧ id = id' ∧ off = off'
  | .int k n, .int k' n' => k = k' ∧ n = n'
  | .bool a, .bool b => a = b
  | .str a, .str b => a = b
  | .nilp, .nilp => True
  | _, .any => True
  | _, _ => False
def expE1 : AV → AV → List Nat
  | .row id _, .sl (.inn _) _ => [id]
  | _, _ => []
def expG1 : AV → AV → List Nat
  | .row id _, .sl .st _ => [id]
  | .sl (.bor id _) _, .sl .st _ => [id]
  | _, _ => []
def expOks (V : Nat) (hp : Hp) : List AV → List AV → Prop
  | [], [] => True
  | a :: as, b :: bs => expOk V hp a b ∧ expOks V hp as bs
  | _, _ => False
def expEs : List AV → List AV → List Nat
  | a :: as, b :: bs => expE1 a b ++ expEs as bs
  | _, _ => []
def expGs : List AV → List AV → List Nat
  | a :: as, b :: bs => expG1 a b ++ expGs as bs
  | _, _ => []
def expOkA (V : Nat) (hp : Hp) : AV → AV → Prop
  | .agg as, .agg bs => expOks V hp as bs
  | a, b => expOk V hp a b
def expEA : AV → AV → List Nat
  | .agg as, .agg bs => expEs as bs
  | a, b => expE1 a b
def expGA : AV → AV → List Nat
  | .agg as, .agg bs => expGs as bs
  | a, b => expG1 a b
def expOkAs (V : Nat) (hp : Hp) : List AV → List AV → Prop
  | [], [] => True
  | a :: as, b :: bs => expOkA V hp a b ∧ expOkAs V hp as bs
  | _, _ => False
def expEAs : List AV → List AV → List Nat
  | a :: as, b :: bs => expEA a b ++ expEAs as bs
  | _, _ => []
def expGAs : List AV → List AV → List Nat
  | a :: as, b :: bs => expGA a b ++ expGAs as bs
  | _, _ => []
def expOkT (V : Nat) (hp : Hp) : AV → AV → Prop
  | .tup as, .tup bs => expOkAs V hp as bs
  | a, b => expOkA V hp a b
def expET : AV → AV → List Nat
  | .tup as, .tup bs => expEAs as bs
  | a, b => expEA a b
def expGT : AV → AV → List Nat
  | .tup as, .tup bs => expGAs as bs
  | a, b => expGA a b

/-- What the caller is left with. -/
structure Left (w : World) (hp : Hp) (C : Co) (hp' : Hp) (C' : Co) (V : Nat) (E : List Nat) : Prop where
  H : HConc w hp C
  sub : Sub w hp C hp' C'
  gone : ∀ g, V ≤ g → hp g ≠ none → g ∉ E → ∀ b ∈ (C g).S, Stab hp' C' w b
  keep : ∀ id, id < V → hp' id = hp id ∧ C' id = C id

theorem exp1_ok {w : World} {hp hp' : Hp} {C C' : Co} {V : Nat} {E : List Nat} (L : Left w hp C hp' C' V E) {a b : AV} {v : Value} (hv : VRep w hp C a v) (h : expOk V hp a b) (hG : ∀ g ∈ expG1 a b, g ∉ E) :
    RR w hp' C' b v (SS C (expE1 a b)) := by
  unfold expOk at h
  split at h
  · obtain ⟨rfl, h0⟩ := h
    simp only [VRep] at hv; subst hv
    simp only [RR, expE1, SS, List.flatMap_nil]
    exact ⟨by simp, h0, 0, [], [], World.ownsRow_nil w 0 0 _, rfl, by simp [Value.ownBlock], by simp⟩
  · subst h
    simp only [VRep] at hv; subst hv
    simp only [RR, expE1, SS, List.flatMap_nil, VRep, MF]
    exact ⟨⟨⟨_, _, _, rfl⟩, .sl (e := 1) [] (by simp) (by simp) (by simp) rfl (by simp) (by simp)⟩, trivial⟩
  · simpa [RR, expE1, SS, VRep] using hv
  · obtain ⟨hV, ver, ys, hi, hl, rfl⟩ := h
    simp only [VRep, hi] at hv
    rw [hv.2.2 hl]
    have hb := L.H.rep _ _ hi
    simp only [BRep, if_true] at hb
    simpa [RR, expE1, SS] using hb
  · rename_i id len xs
    obtain ⟨hV, y, ver, e, ys, hi, hl, rfl⟩ := h
    have hd := low_d (x := false) (ids := [id]) (d := .sl ys) L.H hv (by cases y <;> simp [low, hi, hl])
    have hshape : ∃ A n c, v = .slice A n c := by simp only [VRep, hi] at hv; exact hv.1
    simp only [RR, expE1, SS, List.flatMap_nil, VRep, MF]
    refine ⟨⟨hshape, hd.mono fun b hb => ⟨?_, rfl⟩⟩, trivial⟩
    rcases hb with hb | hb
    · exact L.sub.stab b hb
    · simp only [SS, List.flatMap_cons, List.flatMap_nil, List.append_nil] at hb
      exact L.gone id hV (by simp [hi]) (hG id (by simp [expG1])) b hb
  · subst h
    simp only [VRep, MF] at hv
    simp only [RR, expE1, SS, List.flatMap_nil, VRep, MF]
    exact ⟨⟨hv.1, hv.2.mono fun b hb => ⟨L.sub.stab b hb, rfl⟩⟩, trivial⟩
  · rename_i id ver ys xs
    obtain ⟨hV, hl, rfl⟩ := h
    simp only [VRep] at hv
    have hl' := hl
    simp only [live] at hl'
    simp only [RR, expE1, SS, List.flatMap_nil, VRep, MF] at hv ⊢
    split at hl'
    · rename_i x ver' e zs hi
      have hve : ver' = ver := by simpa using hl'
      rw [hi] at hv
      refine ⟨⟨hv.1, (hv.2.2 hve).mono fun b hb => ⟨?_, rfl⟩⟩, trivial⟩
      rcases hb with hb | hb
      · exact L.gone id hV (by simp [hi]) (hG id (by simp [expG1])) b hb
      · exact L.sub.stab b hb
    · simp at hl'
  · rename_i id off id' off'
    obtain ⟨h1, rfl, rfl⟩ := h
    simp only [RR, expE1, SS, List.flatMap_nil]
    exact ⟨VRep.sub L.sub (by simpa [AV.refs] using L.keep id h1) hv, trivial⟩
  · obtain ⟨rfl, rfl⟩ := h; simpa [RR, expE1, SS, VRep] using hv
  · subst h; simpa [RR, expE1, SS, VRep] using hv
  · subst h; simpa [RR, expE1, SS, VRep] using hv
  · simpa [RR, expE1, SS, VRep] using hv
  · have : expE1 a .any = [] := by cases a <;> rfl
    simp [RR, SS, VRep, this]
  · exact h.elim

theorem exps_ok {w : World} {hp hp' : Hp} {C C' : Co} {V : Nat} {E : List Nat} (L : Left w hp C hp' C' V E) : ∀ {as bs : List AV} {vs : List Value}, VReps w hp C as vs → expOks V hp as bs → (∀ g ∈ expGs as bs, g ∉ E) →
    RRs w hp' C' bs vs (SS C (expEs as bs))
  | [], [], vs, hv, h, hG => by simp [VReps] at hv; simp [RRs, hv, expEs, SS]
  | [], b :: bs, vs, hv, h, hG => by simp [expOks] at h
  | a :: as, [], vs, hv, h, hG => by simp [expOks] at h
  | a :: as, b :: bs, vs, hv, h, hG => by
    simp only [VReps] at hv
    obtain ⟨v, vs', rfl, h1, h2⟩ := hv
    simp only [expOks] at h
    exact ⟨v, vs', SS C (expE1 a b), SS C (expEs as bs), rfl, by simp [expEs, SS], exp1_ok L h1 h.1 fun g hg => hG g (by simp [expGs, hg]), exps_ok L h2 h.2 fun g hg => hG g (by simp [expGs, hg])⟩

theorem expA_ok {w : World} {hp hp' : Hp} {C C' : Co} {V : Nat} {E : List Nat} (L : Left w hp C hp' C' V E) {a b : AV} {v : Value} (hv : VRep w hp C a v) (h : expOkA V hp a b) (hG : ∀ g ∈ expGA a b, g ∉ E) :
    R1 w hp' C' b v (SS C (expEA a b)) := by
  unfold expOkA at h
  split at h
  · simp only [VRep] at hv
    obtain ⟨vs, rfl, hv⟩ := hv
    exact ⟨vs, rfl, exps_ok L hv h hG⟩
  · rename_i hne
    have e1 : expEA a b = expE1 a b := by unfold expEA; split <;> first | rfl | (exfalso; exact hne _ _ rfl rfl)
    have e2 : expGA a b = expG1 a b := by unfold expGA; split <;> first | rfl | (exfalso; exact hne _ _ rfl rfl)
    rw [e1]; rw [e2] at hG
    have := exp1_ok L hv h hG
    cases b with
    | agg cs => cases a <;> simp [expOk] at h
    | _ => exact this

theorem expAs_ok {w : World} {hp hp' : Hp} {C C' : Co} {V : Nat} {E : List Nat} (L : Left w hp C hp' C' V E) : ∀ {as bs : List AV} {vs : List Value}, VReps w hp C as vs → expOkAs V hp as bs → (∀ g ∈ expGAs as bs, g ∉ E) →
    R1s w hp' C' bs vs (SS C (expEAs as bs))
  | [], [], vs, hv, h, hG => by simp [VReps] at hv; simp [R1s, hv, expEAs, SS]
  | [], b :: bs, vs, hv, h, hG => by simp [expOkAs] at h
  | a :: as, [], vs, hv, h, hG => by simp [expOkAs] at h
  | a :: as, b :: bs, vs, hv, h, hG => by
    simp only [VReps] at hv
    obtain ⟨v, vs', rfl, h1, h2⟩ := hv
    simp only [expOkAs] at h
    exact ⟨v, vs', SS C (expEA a b), SS C (expEAs as bs), rfl, by simp [expEAs, SS], expA_ok L h1 h.1 fun g hg => hG g (by simp [expGAs, hg]), expAs_ok L h2 h.2 fun g hg => hG g (by simp [expGAs, hg])⟩

theorem expT_ok {w : World} {hp hp' : Hp} {C C' : Co} {V : Nat} {E : List Nat} (L : Left w hp C hp' C' V E) {a b : AV} {v : Value} (hv : VRep w hp C a v) (h : expOkT V hp a b) (hG : ∀ g ∈ expGT a b, g ∉ E) :
    R2 w hp' C' b v (SS C (expET a b)) := by
  unfold expOkT at h
  split at h
  · simp only [VRep] at hv
    obtain ⟨vs, rfl, hv⟩ := hv
    exact ⟨vs, rfl, expAs_ok L hv h hG⟩
  · rename_i hne
    have e1 : expET a b = expEA a b := by unfold expET; split <;> first | rfl | (exfalso; exact hne _ _ rfl rfl)
    have e2 : expGT a b = expGA a b := by unfold expGT; split <;> first | rfl | (exfalso; exact hne _ _ rfl rfl)
    rw [e1]; rw [e2] at hG
    have := expA_ok L hv h hG
    cases b with
    | tup cs => cases a <;> simp [expOkA, expOk] at h
    | _ => exact this

/-! ### A body's proof is its contract -/
theorem VRep.mono_refs : True := trivial

theorem expE1_ok {V : Nat} {hp : Hp} {a b : AV} (h : expOk V hp a b) : ∀ i ∈ expE1 a b, V ≤ i ∧ hp i ≠ none := by
  unfold expE1
  split
  · simp only [expOk] at h
    obtain ⟨h1, ver, ys, h2, _⟩ := h
    intro i hi; simp at hi; subst hi
    exact ⟨h1, by simp [h2]⟩
  · simp
theorem expEs_ok {V : Nat} {hp : Hp} : ∀ {as bs : List AV}, expOks V hp as bs → ∀ i ∈ expEs as bs, V ≤ i ∧ hp i ≠ none
  | [], [], h => by simp [expEs]
  | [], b :: bs, h => by simp [expOks] at h
  | a :: as, [], h => by simp [expOks] at h
  | a :: as, b :: bs, h => by
    simp only [expOks] at h
    intro i hi
    simp only [expEs, List.mem_append] at hi
    rcases hi with hi | hi
    · exact expE1_ok h.1 i hi
    · exact expEs_ok h.2 i hi
theorem expEA_ok {V : Nat} {hp : Hp} {a b : AV} (h : expOkA V hp a b) : ∀ i ∈ expEA a b, V ≤ i ∧ hp i ≠ none := by
  unfold expOkA at h
  split at h
  · exact expEs_ok h
  · rename_i hne
    have e1 : expEA a b = expE1 a b := by unfold expEA; split <;> first | rfl | (exfalso; exact hne _ _ rfl rfl)
    rw [e1]; exact expE1_ok h
theorem expEAs_ok {V : Nat} {hp : Hp} : ∀ {as bs : List AV}, expOkAs V hp as bs → ∀ i ∈ expEAs as bs, V ≤ i ∧ hp i ≠ none
  | [], [], h => by simp [expEAs]
  | [], b :: bs, h => by simp [expOkAs] at h
  | a :: as, [], h => by simp [expOkAs] at h
  | a :: as, b :: bs, h => by
    simp only [expOkAs] at h
    intro i hi
    simp only [expEAs, List.mem_append] at hi
    rcases hi with hi | hi
    · exact expEA_ok h.1 i hi
    · exact expEAs_ok h.2 i hi
theorem expET_ok {V : Nat} {hp : Hp} {a b : AV} (h : expOkT V hp a b) : ∀ i ∈ expET a b, V ≤ i ∧ hp i ≠ none := by
  unfold expOkT at h
  split at h
  · exact expEAs_ok h
  · rename_i hne
    have e1 : expET a b = expEA a b := by unfold expET; split <;> first | rfl | (exfalso; exact hne _ _ rfl rfl)
    rw [e1]; exact expEA_ok h

/-- What a caller gets back of the heap. -/
def keepV (V : Nat) (hp : Hp) : Hp := fun id => if id < V then hp id else none

theorem leave_conc {w : World} {hp : Hp} {C : Co} (H : HConc w hp C) {V : Nat} {E : List Nat} (hE : ∀ i ∈ E, V ≤ i ∧ hp i ≠ none) (hn : E.Nodup)
    (hr : ∀ id blk, id < V → hp id = some blk → ∀ i ∈ blk.refs, i < V) :
    Left w hp C (upd (keepV V hp) V (some .held)) (C.set V ⟨.bool false, SS C E⟩) V E ∧ HConc w (upd (keepV V hp) V (some .held)) (C.set V ⟨.bool false, SS C E⟩) := by
  have keep : ∀ id, id < V → (upd (keepV V hp) V (some .held)) id = hp id ∧ (C.set V ⟨.bool false, SS C E⟩) id = C id := fun id hid =>
    ⟨by rw [upd_ne _ _ (by omega)]; simp [keepV, hid], Co.set_ne C _ (by omega)⟩
  have alive : ∀ id, (upd (keepV V hp) V (some .held)) id ≠ none → id < V ∧ hp id ≠ none ∨ id = V := fun id hid => by
    by_cases h1 : id = V
    · exact .inr h1
    · rw [upd_ne _ _ h1] at hid
      simp only [keepV] at hid
      split at hid
      · exact .inl ⟨by assumption, hid⟩
      · exact absurd rfl hid
  have owned : ∀ id, (upd (keepV V hp) V (some .held)) id ≠ none → ∀ b ∈ ((C.set V ⟨.bool false, SS C E⟩) id).S, (∃ j, hp j ≠ none ∧ b ∈ (C j).S ∧ ((id = V ∧ j ∈ E) ∨ (id < V ∧ j = id))) := fun id hid b hb => by
    rcases alive id hid with ⟨h1, h2⟩ | rfl
    · rw [(keep id h1).2] at hb
      exact ⟨id, h2, hb, .inr ⟨h1, rfl⟩⟩
    · rw [Co.set_same] at hb
      simp only [SS, List.mem_flatMap] at hb
      obtain ⟨j, hj, hb⟩ := hb
      exact ⟨j, (hE j hj).2, hb, .inl ⟨rfl, hj⟩⟩
  have sub : Sub w hp C (upd (keepV V hp) V (some .held)) (C.set V ⟨.bool false, SS C E⟩) := ⟨fun b hb => ⟨hb.1, hb.2.1, fun id hid hbS => by
    obtain ⟨j, h1, h2, _⟩ := owned id hid b hbS
    exact hb.2.2 j h1 h2⟩⟩
  refine ⟨⟨H, sub, fun g hg ha hgE b hb => ⟨H.lt ha b hb, H.inU g ha b hb, fun id hid hbS => ?_⟩, keep⟩, ⟨H.up, fun id hid b hb => ?_, fun id blk hi => ?_, fun id hid => ?_, fun i j hij hi hj b hb hbj => ?_⟩⟩
  · obtain ⟨j, h1, h2, h3⟩ := owned id hid b hbS
    refine H.apart g j (fun e => ?_) ha h1 b hb h2
    subst e
    rcases h3 with ⟨_, h3⟩ | ⟨h3, rfl⟩
    · exact hgE h3
    · omega
  · obtain ⟨j, h1, h2, _⟩ := owned id hid b hb
    exact H.inU j h1 b h2
  · by_cases hV : id = V
    · subst hV
      rw [upd_same] at hi
      obtain rfl := Option.some.inj hi
      intro b hb
      obtain ⟨j, h1, h2, _⟩ := owned id (by simp) b hb
      exact H.lt h1 b h2
    · have hlt : id < V := by rcases alive id (by rw [hi]; simp) with h | h; exact h.1; exact absurd h hV
      rw [(keep id hlt).1] at hi
      exact BRep.sub sub (H.rep id blk hi) (keep id hlt).2 fun i hir => keep i (hr id blk hlt hi i hir)
  · rcases alive id hid with ⟨h1, h2⟩ | rfl
    · rw [(keep id h1).2]; exact H.nodup id h2
    · rw [Co.set_same]
      exact SS_nodup H hn fun i hi => (hE i hi).2
  · obtain ⟨k, h1, h2, h3⟩ := owned i hi b hb
    obtain ⟨l, k1, k2, k3⟩ := owned j hj b hbj
    refine H.apart k l (fun e => ?_) h1 k1 b h2 k2
    subst e
    rcases h3 with ⟨rfl, h3⟩ | ⟨h3, rfl⟩ <;> rcases k3 with ⟨rfl, k3⟩ | ⟨k3, rfl⟩
    · exact hij rfl
    · exact absurd (hE _ h3).1 (by omega)
    · exact absurd (hE _ k3).1 (by omega)
    · exact hij rfl

def evRes (F : Ty) (σ : St) : List ResultVar → Option (List AV)
  | [] => some []
  | .tmp t :: rs => match evRes F σ rs with
    | some vs => some (σ.ev (.tmp t) :: vs)
    | none => none
  | .cell a t :: rs => match evLoad F σ.hp t (σ.ev (.tmp a)), evRes F σ rs with
    | some v, some vs => some (v :: vs)
    | _, _ => none
def joinA : List AV → AV
  | [v] => v
  | vs => .tup vs

def resOf (tmps : Array Value) : ResultVar → Sem Value
  | .tmp t => pure (tmps.getD t undef)
  | .cell a t => do loadVar t (← asAddr (tmps.getD a undef))
theorem results_eq (fn : Func) (tmps : Array Value) : results fn tmps = (do
  let vs ← fn.results.mapM (resOf tmps)
  pure (if h : vs.size = 1 then vs[0] else .tuple vs)) := by
  unfold results
  rfl
theorem evRes_ok {P : Program} {σ : St} {C : Co} {a : Act} {w : World} (hc : Conc σ C a w) : ∀ {rs : List ResultVar} {vs : List AV}, evRes (tyI P) σ rs = some vs →
    ∃ us, (rs.mapM (resOf a.tmps)).run P w = .ok us w ∧ VReps w σ.hp C vs us
  | [], vs, h => by simp [evRes] at h; subst h; exact ⟨[], by simp, by simp [VReps]⟩
  | .tmp t :: rs, vs, h => by
    simp only [evRes] at h
    split at h
    · rename_i vs' h1
      obtain rfl := Option.some.inj h
      obtain ⟨us, h2, h3⟩ := evRes_ok hc h1
      refine ⟨a.tmps.getD t undef :: us, ?_, ?_⟩
      · simp [List.mapM_cons, h2, resOf]
      · simp only [VReps]; exact ⟨_, _, rfl, hc.ev (.tmp t), h3⟩
    · simp at h
  | .cell ad t :: rs, vs, h => by
    simp only [evRes] at h
    split at h
    · rename_i v vs' h0 h1
      obtain rfl := Option.some.inj h
      obtain ⟨us, h2, h3⟩ := evRes_ok hc h1
      obtain ⟨ad', u, k1, k2, k3⟩ := load_run h0 hc
      have k1' : a.tmps.getD ad undef = .pointer (some ad') := k1
      refine ⟨u :: us, ?_, ?_⟩
      · simp only [List.mapM_cons, resOf, k1', asAddr]
        simp [h2, k2]
      · simp only [VReps]; exact ⟨_, _, rfl, k3, h3⟩
    · simp at h

theorem results_ok {P : Program} {σ : St} {C : Co} {a : Act} {w : World} (hc : Conc σ C a w) {fn : Func} {vs : List AV} (h : evRes (tyI P) σ fn.results.toList = some vs) :
    ∃ u, (results fn a.tmps).run P w = .ok u w ∧ VRep w σ.hp C (joinA vs) u := by
  obtain ⟨us, h1, h2⟩ := evRes_ok hc h
  have hl := h2.length
  refine ⟨if hz : us.toArray.size = 1 then us.toArray[0] else .tuple us.toArray, ?_, ?_⟩
  · rw [results_eq, Array.mapM_eq_mapM_toList]
    simp [h1]
  · unfold joinA
    split
    · rename_i v
      have hl' : us.length = 1 := by simpa using hl.symm
      simp only [VReps] at h2
      obtain ⟨u, us', rfl, h3, h4⟩ := h2
      subst h4
      simpa using h3
    · rename_i hne
      have : us.length ≠ 1 := by
        intro h1
        rw [h1] at hl
        obtain ⟨v, rfl⟩ := List.length_eq_one_iff.1 hl
        exact hne v rfl
      simp only [List.size_toArray, this, dite_false, VRep]
      exact ⟨_, rfl, h2⟩

/-- At a body's end. -/
def AEnd (P : Program) (V : Nat) (fn : Func) (r : AV) (hp' : Hp) (σ : St) : Prop :=
  ∃ vs, evRes (tyI P) σ fn.results.toList = some vs ∧ expOkT V σ.hp (joinA vs) r ∧ (expET (joinA vs) r).Nodup ∧ (∀ g ∈ expGT (joinA vs) r, g ∉ expET (joinA vs) r) ∧
    (∀ id blk, id < V → σ.hp id = some blk → ∀ i ∈ blk.refs, i < V) ∧ hp' = keepV V σ.hp
def endQ (P : Program) (V : Nat) (fn : Func) (r : AV) (hp' : Hp) : Exit → St → Prop
  | .normal, σ | .ret, σ => AEnd P V fn r hp' σ
  | _, _ => False

theorem acall_of {P : Program} {f : FuncId} {fn : Func} {c : Code} {V : Nat} {args : List AV} {hp : Hp} {r : AV} {hp' : Hp} (hf : P.funcs[f]? = some fn) (hname : (fn.name == "runtime.NumGoroutine") = false) (hb : fn.body = some c) (hn : args.length ≤ fn.ntmps)
    (h : AWp P V c (endQ P V fn r hp') ⟨fn.ntmps, fun t => args.getD t .und, hp⟩) : ACall P V f args hp r hp' := by
  refine ⟨⟨fn, c, hf, hname, hb⟩, fun C w vs H hv => ?_⟩
  have hl := hv.length
  refine calls_of_wp hf hb (wp_mono (h C _ w ⟨rfl, by simp; omega, fun t v ht => ?_, H⟩) fun e a' w' ⟨σ', C', h1, h2, h3⟩ => ?_)
  · simp only at ht ⊢
    by_cases htl : t < vs.length
    · rw [Array.getElem?_append_left (by simpa using htl)] at ht
      have ht' : vs[t]? = some v := by simpa using ht
      have hat : args[t]? = some (args[t]'(by omega)) := List.getElem?_eq_getElem (by omega)
      rw [List.getD_eq_getElem?_getD, hat, Option.getD_some]
      exact hv.at hat ht'
    · rw [Array.getElem?_append_right (by simpa using htl)] at ht
      rw [Array.getElem?_replicate] at ht
      split at ht
      · have hat : args[t]? = none := List.getElem?_eq_none (by omega)
        rw [List.getD_eq_getElem?_getD, hat]
        simp [VRep]
        simpa using ht.symm
      · simp at ht
  · have fin : AEnd P V fn r hp' σ' → a'.defers = [] ∧ ∃ v, (results fn a'.tmps).run P w' = .ok v w' ∧ ∃ u Cq S, (Ending.returned v) = .returned u ∧ Cq V = ⟨.bool false, S⟩ ∧ hp' V = none ∧
        HConc w' (upd hp' V (some .held)) Cq ∧ Gone V w hp C w' (upd hp' V (some .held)) Cq ∧ R2 w' (upd hp' V (some .held)) Cq r u S := by
      rintro ⟨vs, k1, k2, k3, k4, k5, rfl⟩
      obtain ⟨u, j1, j2⟩ := results_ok h2 k1
      obtain ⟨L, HC⟩ := leave_conc h2.heap (E := expET (joinA vs) r) (expET_ok k2) k3 k5
      have alive : ∀ id, (upd (keepV V σ'.hp) V (some .held)) id ≠ none → ∀ b ∈ ((C'.set V ⟨.bool false, SS C' (expET (joinA vs) r)⟩) id).S, Own σ'.hp C' b := fun id hid b hb => by
        by_cases hV : id = V
        · subst hV
          rw [Co.set_same] at hb
          simp only [SS, List.mem_flatMap] at hb
          obtain ⟨j, hj, hb⟩ := hb
          exact ⟨j, (expET_ok k2 j hj).2, hb⟩
        · rw [Co.set_ne _ _ hV] at hb
          rw [upd_ne _ _ hV] at hid
          simp only [keepV] at hid
          split at hid
          · exact ⟨id, hid, hb⟩
          · exact absurd rfl hid
      refine ⟨h2.defers, u, j1, u, _, _, rfl, Co.set_same .., by simp [keepV], HC, ⟨?_, ?_⟩, expT_ok L j2 k2 k4⟩
      · exact ⟨h3.fr.U, h3.fr.os, h3.fr.tape, h3.fr.output, h3.fr.size, h3.fr.block, fun b ⟨id, hid, hb⟩ => h3.fr.own b (alive id hid b hb), h3.fr.frz⟩
      · intro id hid blk hblk
        obtain ⟨blk', m1, m2⟩ := h3.vev id hid blk hblk
        refine ⟨blk', by rw [(L.keep id hid).1]; exact m1, ?_⟩
        rw [(L.keep id hid).2]; exact m2
    cases e with
    | normal => exact fin h1
    | ret => exact fin h1
    | exit id => exact h1.elim
    | goto l => exact h1.elim
    | panic ch => exact h1.elim
    | outgrown => exact h1.elim

end Go.Al
