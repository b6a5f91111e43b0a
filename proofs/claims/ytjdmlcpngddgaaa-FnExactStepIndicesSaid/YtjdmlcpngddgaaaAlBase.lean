/- The abstract logic, part 1: plain data, abstract values, and how a world bears them. -/
import Derived.Below
import Derived.Laws.AppendOwn
import Derived.Laws.OwnMore
import Derived.Laws.MakeOwn
import Derived.Deep.Draws
import Derived.Deep.LoopGhost
import Derived.Orders
import Derived.DataElems
set_option linter.unusedVariables false
namespace Go.Al
open Go

/-- Plain data: what a value in memory is read as. A slice: its elements, each a list of cells, all of one length. -/
inductive D where
  | int (k : IntKind) (n : Int)
  | bool (b : Bool)
  | str (s : ByteArray)
  | sl (xs : List (List D))

instance : Inhabited D := ⟨.bool false⟩

/-- How a slice is held: stable (never written again), own (in a result: nobody else leads there), or lent by a row. -/
inductive Md where
  | st
  | inn (e : Nat)
  | bor (id ver : Nat)

inductive AV where
  | any
  | und
  | int (k : IntKind) (n : Int)
  | bool (b : Bool)
  | str (s : ByteArray)
  | sl (m : Md) (xs : List (List D))
  | row (id len : Nat)
  | ptr (id off : Nat)
  | rptr (id len i off : Nat)
  | cel (id len ver k : Nat)
  | iptr (m : Md) (cs : List D)
  | agg (cs : List AV)
  | tup (vs : List AV)
  | fn (g : FuncId) (caps : List AV)
  | nil
  | nilp

instance : Inhabited AV := ⟨.any⟩

/-- A block of the abstract heap: a variable in memory; a row that the call owns (x: all that its elements lead to is its own). -/
inductive Blk where
  | dead
  | held
  | box (cells : List AV)
  | row (x : Bool) (ver e : Nat) (xs : List (List D))

instance : Inhabited Blk := ⟨.dead⟩

/-- What stands behind a block in the real world: its value (a pointer, a slice) and its blocks. -/
structure CB where
  v : Value
  S : List Nat

abbrev Hp := Nat → Option Blk
def upd {α : Type} (f : Nat → α) (i : Nat) (x : α) : Nat → α := fun j => if j = i then x else f j
@[simp] theorem upd_same {α : Type} (f : Nat → α) (i : Nat) (x : α) : upd f i x i = x := by simp [upd]
theorem upd_ne {α : Type} (f : Nat → α) {i j : Nat} (x : α) (h : j ≠ i) : upd f i x j = f j := by simp [upd, h]

/-- The real blocks behind the abstract ones; and the blocks that may be looked at at all. -/
structure Co where
  cb : Nat → CB
  U : Nat → Prop
instance : CoeFun Co (fun _ => Nat → CB) := ⟨Co.cb⟩
def Co.set (C : Co) (N : Nat) (c : CB) : Co := { C with cb := upd C.cb N c }
@[simp] theorem Co.set_same (C : Co) (N : Nat) (c : CB) : (C.set N c) N = c := upd_same ..
theorem Co.set_ne (C : Co) {N i : Nat} (c : CB) (h : i ≠ N) : (C.set N c) i = C i := upd_ne _ _ h
@[simp] theorem Co.set_U (C : Co) (N : Nat) (c : CB) : (C.set N c).U = C.U := rfl

/-! ### Readings -/
inductive DRep (w : World) (F : Nat → Prop) : D → Value → Prop
  | int {k : IntKind} {n : Int} (h : k.wrap n = n) : DRep w F (.int k n) (.int k n)
  | bool {b : Bool} : DRep w F (.bool b) (.bool b)
  | str {s : ByteArray} (h : s.size ≤ maxLen) : DRep w F (.str s) (.string s)
  | sl {e : Nat} {xs : List (List D)} {A : Option Addr} {c : Nat} (vals : List Value)
      (he : ∀ cs ∈ xs, cs.length = e) (hc : xs.length ≤ c) (hm : c ≤ maxLen) (hv : vals.length = xs.flatten.length)
      (hr : ∀ (j : Nat) (d : D) (u : Value), xs.flatten[j]? = some d → vals[j]? = some u → DRep w F d u)
      (ha : vals ≠ [] → ∃ ad, A = some ad ∧ F ad.block ∧ ∀ (j : Nat) (u : Value), vals[j]? = some u → w.cell? (ad.add j) = some u) :
      DRep w F (.sl xs) (.slice A xs.length c)

inductive XRep (w : World) : D → Value → List Nat → Prop
  | int {k : IntKind} {n : Int} (h : k.wrap n = n) : XRep w (.int k n) (.int k n) []
  | bool {b : Bool} : XRep w (.bool b) (.bool b) []
  | str {s : ByteArray} (h : s.size ≤ maxLen) : XRep w (.str s) (.string s) []
  | sl {e : Nat} {xs : List (List D)} {v : Value} (te : TypeId) (vals : List Value) (Ss : List (List Nat))
      (he : ∀ cs ∈ xs, cs.length = e) (h0 : 0 < e) (own : w.ownsRow 0 te e v xs.length vals) (hs : Ss.length = vals.length)
      (hr : ∀ (j : Nat) (d : D) (u : Value) (S : List Nat), xs.flatten[j]? = some d → vals[j]? = some u → Ss[j]? = some S → XRep w d u S) :
      XRep w (.sl xs) v (v.ownBlock.toList ++ Ss.flatten)

theorem length_flatten {α : Type} {e : Nat} {xs : List (List α)} (he : ∀ cs ∈ xs, cs.length = e) : xs.flatten.length = xs.length * e := by
  induction xs with
  | nil => simp
  | cons x xs ih =>
    have h1 := he x (by simp)
    have h2 := ih fun cs hc => he cs (by simp [hc])
    simp only [List.flatten_cons, List.length_append, List.length_cons, h1, h2, Nat.add_mul]
    omega

theorem flatten_at {α : Type} {e : Nat} {xs : List (List α)} (he : ∀ cs ∈ xs, cs.length = e) {i j : Nat} {cs : List α} (hi : xs[i]? = some cs) (hj : j < e) :
    xs.flatten[i * e + j]? = cs[j]? := by
  induction xs generalizing i with
  | nil => simp at hi
  | cons x xs ih =>
    have h1 := he x (by simp)
    cases i with
    | zero =>
      simp at hi
      subst hi
      simp only [List.flatten_cons, Nat.zero_mul, Nat.zero_add]
      rw [List.getElem?_append_left (by omega)]
    | succ i =>
      have h2 := ih (fun cs hc => he cs (by simp [hc])) (i := i) (by simpa using hi)
      simp only [List.flatten_cons]
      rw [List.getElem?_append_right (by rw [h1, Nat.add_mul]; omega), h1]
      have : (i + 1) * e + j - e = i * e + j := by rw [Nat.add_mul]; omega
      rw [this]; exact h2

theorem DRep.mono {w w' : World} {F F' : Nat → Prop} {d : D} {v : Value} (h : DRep w F d v) (hF : ∀ b, F b → F' b ∧ w'.heap[b]? = w.heap[b]?) : DRep w' F' d v := by
  induction h with
  | int h => exact .int h
  | bool => exact .bool
  | str h => exact .str h
  | sl vals he hc hm hv hr ha ih =>
    refine .sl vals he hc hm hv ih fun hn => ?_
    obtain ⟨ad, e, hf, hcell⟩ := ha hn
    exact ⟨ad, e, (hF _ hf).1, fun j u hu => (World.cell?_of_block (w := w) (by
      have : (ad.add j).block = ad.block := by unfold Addr.add; split <;> rfl
      rw [this]; exact (hF _ hf).2)).trans (hcell j u hu)⟩

theorem ownsRow_heap {w w' : World} {base : Nat} {te : TypeId} {e n : Nat} {v : Value} {vals : List Value} (h : w.ownsRow base te e v n vals)
    (hk : ∀ k, v.ownBlock = some k → w'.heap[k]? = w.heap[k]?) : w'.ownsRow base te e v n vals := by
  refine ⟨h.1, ?_⟩
  rcases h.2 with h2 | ⟨g, cap, cur, rfl, hb, hg, r⟩
  · exact .inl h2
  · exact .inr ⟨g, cap, cur, rfl, hb, (hk g rfl).trans hg, r⟩

theorem XRep.keep {w w' : World} {d : D} {v : Value} {S : List Nat} (h : XRep w d v S) (hS : ∀ b ∈ S, w'.heap[b]? = w.heap[b]?) : XRep w' d v S := by
  induction h with
  | int h => exact .int h
  | bool => exact .bool
  | str h => exact .str h
  | sl te vals Ss he h0 own hs hr ih =>
    refine .sl te vals Ss he h0 (ownsRow_heap own fun k hk => hS k (by simp [hk])) hs fun j d u S h1 h2 h3 => ih j d u S h1 h2 h3 fun b hb => hS b ?_
    exact List.mem_append_right _ (List.mem_flatten.2 ⟨S, List.mem_of_getElem? h3, hb⟩)

theorem XRep.lt {w : World} {d : D} {v : Value} {S : List Nat} (h : XRep w d v S) : ∀ b ∈ S, b < w.heap.size := by
  induction h with
  | int h => simp
  | bool => simp
  | str h => simp
  | @sl e xs v te vals Ss he h0 own hs hr ih =>
    intro b hb
    rcases List.mem_append.1 hb with hb | hb
    · cases hv : v.ownBlock with
      | none => simp [hv] at hb
      | some k =>
        have : b = k := by simpa [hv] using hb
        subst this
        exact (own.lt b hv).2
    · obtain ⟨S, hS, hb⟩ := List.mem_flatten.1 hb
      obtain ⟨j, hj⟩ := List.getElem?_of_mem hS
      have hjl : j < Ss.length := (List.getElem?_eq_some_iff.1 hj).1
      have hl := own.1
      have hf := length_flatten he
      obtain ⟨u, hu⟩ : ∃ u, vals[j]? = some u := ⟨_, List.getElem?_eq_getElem (by omega)⟩
      obtain ⟨d, hd⟩ : ∃ d, xs.flatten[j]? = some d := ⟨_, List.getElem?_eq_getElem (by rw [hf]; omega)⟩
      exact ih j d u S hd hu hj b hb

/-- What is owned can be read. -/
theorem XRep.read {w : World} {d : D} {v : Value} {S : List Nat} (h : XRep w d v S) : DRep w (fun b => b ∈ S) d v := by
  induction h with
  | int h => exact .int h
  | bool => exact .bool
  | str h => exact .str h
  | @sl e xs v te vals Ss he h0 own hs hr ih =>
    have hl := own.1
    have hf := length_flatten he
    have hrec : ∀ (j : Nat) (d : D) (u : Value), xs.flatten[j]? = some d → vals[j]? = some u → DRep w (fun b => b ∈ v.ownBlock.toList ++ Ss.flatten) d u := by
      intro j d u h1 h2
      have hjl : j < vals.length := (List.getElem?_eq_some_iff.1 h2).1
      obtain ⟨S, hS⟩ : ∃ S, Ss[j]? = some S := ⟨_, List.getElem?_eq_getElem (by omega)⟩
      exact (ih j d u S h1 h2 hS).mono fun b hb => ⟨List.mem_append_right _ (List.mem_flatten.2 ⟨S, List.mem_of_getElem? hS, hb⟩), rfl⟩
    rcases own.2 with ⟨rfl, hn⟩ | ⟨g, cap, cur, rfl, hb, hg, hnc, hcm, hcs, ht⟩
    · have hx : xs = [] := List.eq_nil_of_length_eq_zero hn
      subst hx
      exact .sl [] he (by simp) (by simp) rfl (fun j d u h => by simp at h) (fun h => absurd rfl h)
    · refine .sl vals he hnc hcm (by omega) hrec fun _ => ⟨⟨g, 0, none⟩, rfl, by simp [Value.ownBlock], fun j u hu => own.cells (g := g) rfl j u hu⟩

/-! ### Abstract values -/
def Stab (hp : Hp) (C : Co) (w : World) (b : Nat) : Prop := b < w.heap.size ∧ C.U b ∧ ∀ id, hp id ≠ none → b ∉ (C id).S

def MF (w : World) (hp : Hp) (C : Co) (m : Md) (p : (Nat → Prop) → Prop) : Prop :=
  match m with
  | .st => p (Stab hp C w)
  | .inn _ => False
  | .bor id ver => match hp id with
    | some (.row _ ver' _ _) => ver ≤ ver' ∧ (ver' = ver → p (fun b => b ∈ (C id).S ∨ Stab hp C w b))
    | some .dead => True
    | _ => False

def PRep (w : World) (F : Nat → Prop) (cs : List D) (ad : Addr) : Prop := ∀ (j : Nat) (d : D), cs[j]? = some d → ∃ u, w.cell? (ad.add j) = some u ∧ DRep w F d u ∧ F ad.block

mutual
def VRep (w : World) (hp : Hp) (C : Co) : AV → Value → Prop
  | .any, _ => True
  | .und, v => v = undef
  | .int k n, v => v = .int k n ∧ k.wrap n = n
  | .bool b, v => v = .bool b
  | .str s, v => v = .string s ∧ s.size ≤ maxLen
  | .sl m xs, v => (∃ A n c, v = .slice A n c) ∧ MF w hp C m fun F => DRep w F (.sl xs) v
  | .row id len, v => (∃ A n c, v = .slice A n c) ∧ match hp id with
    | some (.row _ _ _ xs) => len ≤ xs.length ∧ (xs.length = len → v = (C id).v)
    | some .dead => True
    | _ => False
  | .ptr id off, v => (∃ q, v = .pointer q) ∧ match hp id with
    | some (.box _) => ∃ b, (C id).v = .pointer (some ⟨b, 0, none⟩) ∧ v = .pointer (some ⟨b, off, none⟩)
    | some .dead => True
    | _ => False
  | .rptr id len i off, v => (∃ q, v = .pointer q) ∧ match hp id with
    | some (.row _ _ e xs) => len ≤ xs.length ∧ (xs.length = len → ∃ b, (C id).v.ownBlock = some b ∧ v = .pointer (some ⟨b, i * e + off, none⟩))
    | some .dead => True
    | _ => False
  | .cel id len ver k, v => (∃ A n c, v = .slice A n c) ∧ match hp id with
    | some (.row _ ver' _ xs) => len ≤ xs.length ∧ ver ≤ ver' ∧ (xs.length = len → ver' = ver → ∃ b, (C id).v.ownBlock = some b ∧ b ∈ (C id).S ∧ w.cell? ⟨b, k, none⟩ = some v)
    | some .dead => True
    | _ => False
  | .iptr m cs, v => (∃ q, v = .pointer q) ∧ MF w hp C m fun F => ∃ ad, v = .pointer (some ad) ∧ PRep w F cs ad
  | .agg cs, v => ∃ vs, v = .agg vs ∧ VReps w hp C cs vs.toList
  | .tup cs, v => ∃ vs, v = .tuple vs ∧ VReps w hp C cs vs.toList
  | .fn g caps, v => ∃ vs, v = .func (.func g) #[] vs ∧ VReps w hp C caps vs.toList
  | .nil, v => v = .slice none 0 0
  | .nilp, v => v = .pointer none
def VReps (w : World) (hp : Hp) (C : Co) : List AV → List Value → Prop
  | [], vs => vs = []
  | a :: as, vs => ∃ v vs', vs = v :: vs' ∧ VRep w hp C a v ∧ VReps w hp C as vs'
end

theorem VReps.length {w : World} {hp : Hp} {C : Co} : ∀ {as : List AV} {vs : List Value}, VReps w hp C as vs → as.length = vs.length
  | [], vs, h => by simp [VReps] at h; simp [h]
  | a :: as, vs, h => by
    simp only [VReps] at h
    obtain ⟨v, vs', rfl, _, h2⟩ := h
    simp [VReps.length h2]

theorem VReps.at {w : World} {hp : Hp} {C : Co} : ∀ {as : List AV} {vs : List Value}, VReps w hp C as vs → ∀ {i : Nat} {a : AV} {v : Value}, as[i]? = some a → vs[i]? = some v → VRep w hp C a v
  | [], vs, h, i, a, v, h1, h2 => by simp at h1
  | a :: as, vs, h, i, b, u, h1, h2 => by
    simp only [VReps] at h
    obtain ⟨v, vs', rfl, h3, h4⟩ := h
    cases i with
    | zero => simp at h1 h2; subst h1; subst h2; exact h3
    | succ i => exact VReps.at h4 (by simpa using h1) (by simpa using h2)

theorem VReps.of {w : World} {hp : Hp} {C : Co} : ∀ {as : List AV} {vs : List Value}, as.length = vs.length → (∀ (i : Nat) (a : AV) (v : Value), as[i]? = some a → vs[i]? = some v → VRep w hp C a v) → VReps w hp C as vs
  | [], vs, hl, _ => by simp [VReps]; exact List.eq_nil_of_length_eq_zero hl.symm
  | a :: as, [], hl, _ => by simp at hl
  | a :: as, v :: vs, hl, h => by
    simp only [VReps]
    exact ⟨v, vs, rfl, h 0 a v rfl rfl, VReps.of (by simpa using hl) fun i a' v' h1 h2 => h (i + 1) a' v' (by simpa using h1) (by simpa using h2)⟩

theorem VReps.append {w : World} {hp : Hp} {C : Co} {as bs : List AV} {vs us : List Value} (h1 : VReps w hp C as vs) (h2 : VReps w hp C bs us) : VReps w hp C (as ++ bs) (vs ++ us) := by
  induction as generalizing vs with
  | nil => simp [VReps] at h1; subst h1; exact h2
  | cons a as ih =>
    simp only [VReps] at h1
    obtain ⟨v, vs', rfl, h3, h4⟩ := h1
    exact ⟨v, vs' ++ us, rfl, h3, ih h4⟩

theorem VReps.set {w : World} {hp : Hp} {C : Co} {as : List AV} {vs : List Value} (h : VReps w hp C as vs) (i : Nat) {a : AV} {v : Value} (h1 : VRep w hp C a v) : VReps w hp C (as.set i a) (vs.set i v) := by
  induction as generalizing vs i with
  | nil => simp [VReps] at h; subst h; simp [VReps]
  | cons b as ih =>
    simp only [VReps] at h
    obtain ⟨u, vs', rfl, h3, h4⟩ := h
    cases i with
    | zero => exact ⟨v, vs', rfl, h1, h4⟩
    | succ i => exact ⟨u, vs'.set i v, rfl, h3, ih h4 i⟩

/-! ### How worlds and heaps go on -/
def IdEv (w w' : World) (c : CB) (blk : Blk) (c' : CB) (blk' : Blk) : Prop :=
  match blk, blk' with
  | _, .dead => True
  | .held, .held => True
  | .box _, .box _ => c'.v = c.v
  | .row _ ver e xs, .row _ ver' e' xs' => e' = e ∧ xs.length ≤ xs'.length ∧ (xs'.length = xs.length → c'.v = c.v) ∧ ver ≤ ver' ∧ (ver' = ver → ∀ b ∈ c.S, b ∈ c'.S ∧ w'.heap[b]? = w.heap[b]?)
  | _, _ => False

structure Ev (w : World) (hp : Hp) (C : Co) (w' : World) (hp' : Hp) (C' : Co) : Prop where
  U : C'.U = C.U
  stab : ∀ b, Stab hp C w b → w'.heap[b]? = w.heap[b]? ∧ Stab hp' C' w' b
  ids : ∀ id blk, hp id = some blk → ∃ blk', hp' id = some blk' ∧ IdEv w w' (C id) blk (C' id) blk'

theorem MF.ev {w w' : World} {hp hp' : Hp} {C C' : Co} (E : Ev w hp C w' hp' C') {m : Md} {p p' : (Nat → Prop) → Prop}
    (hpp : ∀ F F' : Nat → Prop, (∀ b, F b → F' b ∧ w'.heap[b]? = w.heap[b]?) → p F → p' F') (h : MF w hp C m p) : MF w' hp' C' m p' := by
  cases m with
  | st => exact hpp _ _ (fun b hb => ⟨(E.stab b hb).2, (E.stab b hb).1⟩) h
  | inn e => exact h
  | bor id ver =>
    simp only [MF] at h ⊢
    cases hi : hp id with
    | none => simp [hi] at h
    | some blk =>
      obtain ⟨blk', hi', he⟩ := E.ids id blk hi
      rw [hi'] 
      rw [hi] at h
      cases blk <;> cases blk' <;> simp [IdEv] at he h ⊢
      obtain ⟨h1, h2, h3, h4, h5⟩ := he
      exact ⟨by omega, fun hv => hpp _ _ (fun b hb => by
        rcases hb with hb | hb
        · exact ⟨.inl (h5 (by omega) b hb).1, (h5 (by omega) b hb).2⟩
        · exact ⟨.inr (E.stab b hb).2, (E.stab b hb).1⟩) (h.2 (by omega))⟩

theorem PRep.mono {w w' : World} {F F' : Nat → Prop} {cs : List D} {ad : Addr} (h : PRep w F cs ad) (hF : ∀ b, F b → F' b ∧ w'.heap[b]? = w.heap[b]?) : PRep w' F' cs ad := by
  intro j d hd
  obtain ⟨u, h1, h2, h3⟩ := h j d hd
  exact ⟨u, (World.cell?_of_block (w := w) (by
      have : (ad.add j).block = ad.block := by unfold Addr.add; split <;> rfl
      rw [this]; exact (hF _ h3).2)).trans h1, h2.mono hF, (hF _ h3).1⟩

mutual
theorem VRep.ev {w w' : World} {hp hp' : Hp} {C C' : Co} (E : Ev w hp C w' hp' C') : ∀ {a : AV} {v : Value}, VRep w hp C a v → VRep w' hp' C' a v
  | .any, _, _ => by simp [VRep]
  | .und, v, h => by simpa [VRep] using h
  | .int k n, v, h => by simpa [VRep] using h
  | .bool b, v, h => by simpa [VRep] using h
  | .str s, v, h => by simpa [VRep] using h
  | .sl m xs, v, h => by
    simp only [VRep] at h ⊢
    exact ⟨h.1, MF.ev E (fun F F' hF hd => hd.mono hF) h.2⟩
  | .iptr m cs, v, h => by
    simp only [VRep] at h ⊢
    exact ⟨h.1, MF.ev E (fun F F' hF ⟨ad, h1, h2⟩ => ⟨ad, h1, h2.mono hF⟩) h.2⟩
  | .row id len, v, h => by
    simp only [VRep] at h ⊢
    refine ⟨h.1, ?_⟩
    replace h := h.2
    cases hi : hp id with
    | none => simp [hi] at h
    | some blk =>
      obtain ⟨blk', hi', he⟩ := E.ids id blk hi
      rw [hi']; rw [hi] at h
      cases blk <;> cases blk' <;> simp [IdEv] at he h ⊢
      obtain ⟨h1, h2, h3, h4, h5⟩ := he
      exact ⟨by omega, fun hl => by rw [h.2 (by omega)]; exact (h3 (by omega)).symm⟩
  | .ptr id off, v, h => by
    simp only [VRep] at h ⊢
    refine ⟨h.1, ?_⟩
    replace h := h.2
    cases hi : hp id with
    | none => simp [hi] at h
    | some blk =>
      obtain ⟨blk', hi', he⟩ := E.ids id blk hi
      rw [hi']; rw [hi] at h
      cases blk <;> cases blk' <;> simp [IdEv] at he h ⊢
      rw [he]; exact h
  | .cel id len ver k, v, h => by
    simp only [VRep] at h ⊢
    refine ⟨h.1, ?_⟩
    replace h := h.2
    cases hi : hp id with
    | none => simp [hi] at h
    | some blk =>
      obtain ⟨blk', hi', he⟩ := E.ids id blk hi
      rw [hi']; rw [hi] at h
      cases blk <;> cases blk' <;> simp [IdEv] at he h ⊢
      obtain ⟨rfl, h2, h3, h4, h5⟩ := he
      refine ⟨by omega, by omega, fun hl hv => ?_⟩
      obtain ⟨b, k1, k2, k3⟩ := h.2.2 (by omega) (by omega)
      obtain ⟨k4, k5⟩ := h5 (by omega) b k2
      exact ⟨b, by rw [h3 (by omega)]; exact k1, k4, (World.cell?_of_block (w := w) k5).trans k3⟩
  | .rptr id len i off, v, h => by
    simp only [VRep] at h ⊢
    refine ⟨h.1, ?_⟩
    replace h := h.2
    cases hi : hp id with
    | none => simp [hi] at h
    | some blk =>
      obtain ⟨blk', hi', he⟩ := E.ids id blk hi
      rw [hi']; rw [hi] at h
      cases blk <;> cases blk' <;> simp [IdEv] at he h ⊢
      obtain ⟨rfl, h2, h3, h4, h5⟩ := he
      exact ⟨by omega, fun hl => by rw [h3 (by omega)]; exact h.2 (by omega)⟩
  | .agg cs, v, h => by
    simp only [VRep] at h ⊢
    obtain ⟨vs, h1, h2⟩ := h
    exact ⟨vs, h1, VReps.ev E h2⟩
  | .tup cs, v, h => by
    simp only [VRep] at h ⊢
    obtain ⟨vs, h1, h2⟩ := h
    exact ⟨vs, h1, VReps.ev E h2⟩
  | .fn g cs, v, h => by
    simp only [VRep] at h ⊢
    obtain ⟨vs, h1, h2⟩ := h
    exact ⟨vs, h1, VReps.ev E h2⟩
  | .nil, v, h => by simpa [VRep] using h
  | .nilp, v, h => by simpa [VRep] using h
theorem VReps.ev {w w' : World} {hp hp' : Hp} {C C' : Co} (E : Ev w hp C w' hp' C') : ∀ {as : List AV} {vs : List Value}, VReps w hp C as vs → VReps w' hp' C' as vs
  | [], vs, h => by simpa [VReps] using h
  | a :: as, vs, h => by
    simp only [VReps] at h ⊢
    obtain ⟨v, vs', h1, h2, h3⟩ := h
    exact ⟨v, vs', h1, VRep.ev E h2, VReps.ev E h3⟩
end

/-! ### The blocks of the abstract heap -/
/-- A row whose elements, and all that they lead to, belong to it. -/
def XRow (w : World) (e : Nat) (xs : List (List D)) (v : Value) (S : List Nat) : Prop :=
  (∀ cs ∈ xs, cs.length = e) ∧ 0 < e ∧ ∃ (te : TypeId) (vals : List Value) (Ss : List (List Nat)), w.ownsRow 0 te e v xs.length vals ∧ Ss.length = vals.length ∧ S = v.ownBlock.toList ++ Ss.flatten ∧
    ∀ (j : Nat) (d : D) (u : Value) (S : List Nat), xs.flatten[j]? = some d → vals[j]? = some u → Ss[j]? = some S → XRep w d u S
theorem XRow.rep {w : World} {e : Nat} {xs : List (List D)} {v : Value} {S : List Nat} (h : XRow w e xs v S) : XRep w (.sl xs) v S := by
  obtain ⟨he, h0, te, vals, Ss, own, hs, rfl, hr⟩ := h
  exact .sl te vals Ss he h0 own hs hr
theorem XRow.keep {w w' : World} {e : Nat} {xs : List (List D)} {v : Value} {S : List Nat} (h : XRow w e xs v S) (hS : ∀ b ∈ S, w'.heap[b]? = w.heap[b]?) : XRow w' e xs v S := by
  obtain ⟨he, h0, te, vals, Ss, own, hs, rfl, hr⟩ := h
  exact ⟨he, h0, te, vals, Ss, ownsRow_heap own fun k hk => hS k (by simp [hk]), hs, rfl, fun j d u S h1 h2 h3 => (hr j d u S h1 h2 h3).keep fun b hb => hS b (List.mem_append_right _ (List.mem_flatten.2 ⟨S, List.mem_of_getElem? h3, hb⟩))⟩

def BRep (w : World) (hp : Hp) (C : Co) (id : Nat) : Blk → Prop
  | .dead => (C id).S = []
  | .held => ∀ b ∈ (C id).S, b < w.heap.size
  | .box cells => ∃ b arr te, (C id).v = .pointer (some ⟨b, 0, none⟩) ∧ (C id).S = [b] ∧ w.heap[b]? = some (.cells arr te (0, 0)) ∧ VReps w hp C cells arr.toList
  | .row x _ e xs => if x = true then XRow w e xs (C id).v (C id).S else
      (∀ cs ∈ xs, cs.length = e) ∧ 0 < e ∧ (C id).S = (C id).v.ownBlock.toList ∧ ∃ te vals, w.ownsRow 0 te e (C id).v xs.length vals ∧
        ∀ (j : Nat) (d : D) (u : Value), xs.flatten[j]? = some d → vals[j]? = some u → DRep w (Stab hp C w) d u

structure HConc (w : World) (hp : Hp) (C : Co) : Prop where
  up : ∀ b, w.heap.size ≤ b → C.U b
  inU : ∀ id, hp id ≠ none → ∀ b ∈ (C id).S, C.U b
  rep : ∀ id blk, hp id = some blk → BRep w hp C id blk
  nodup : ∀ id, hp id ≠ none → (C id).S.Nodup
  apart : ∀ i j, i ≠ j → hp i ≠ none → hp j ≠ none → ∀ b ∈ (C i).S, b ∉ (C j).S

theorem BRep.lt {w : World} {hp : Hp} {C : Co} {id : Nat} {blk : Blk} (h : BRep w hp C id blk) : ∀ b ∈ (C id).S, b < w.heap.size := by
  intro b hb
  cases blk with
  | dead => simp [BRep] at h; simp [h] at hb
  | held => exact h b hb
  | box cells =>
    obtain ⟨b', arr, te, _, h2, h3, _⟩ := h
    rw [h2] at hb
    have : b = b' := by simpa using hb
    subst this
    exact (Array.getElem?_eq_some_iff.1 h3).1
  | row x ver e xs =>
    simp only [BRep] at h
    split at h
    · exact h.rep.lt b hb
    · obtain ⟨_, _, h3, te, vals, own, _⟩ := h
      rw [h3] at hb
      cases hv : (C id).v.ownBlock with
      | none => simp [hv] at hb
      | some k =>
        have : b = k := by simpa [hv] using hb
        subst this
        exact (own.lt b hv).2

theorem HConc.lt {w : World} {hp : Hp} {C : Co} (h : HConc w hp C) {id : Nat} (hi : hp id ≠ none) : ∀ b ∈ (C id).S, b < w.heap.size := by
  cases hh : hp id with
  | none => exact absurd hh hi
  | some blk => exact (h.rep id blk hh).lt

/-- A block that nobody has turned. -/
theorem BRep.kept {w w' : World} (hsz : w.heap.size ≤ w'.heap.size) {hp hp' : Hp} {C C' : Co} (E : Ev w hp C w' hp' C') {id : Nat} {blk : Blk} (h : BRep w hp C id blk) (hC : C' id = C id)
    (hS : ∀ b ∈ (C id).S, w'.heap[b]? = w.heap[b]?) : BRep w' hp' C' id blk := by
  cases blk with
  | dead => simp [BRep] at h ⊢; rw [hC]; exact h
  | held => simp only [BRep] at h ⊢; rw [hC]; exact fun b hb => Nat.lt_of_lt_of_le (h b hb) hsz
  | box cells =>
    obtain ⟨b, arr, te, h1, h2, h3, h4⟩ := h
    exact ⟨b, arr, te, by rw [hC]; exact h1, by rw [hC]; exact h2, by rw [hS b (by simp [h2])]; exact h3, VReps.ev E h4⟩
  | row x ver e xs =>
    simp only [BRep] at h ⊢
    rw [hC]
    split
    · rename_i hx; simp only [hx, if_true] at h; exact h.keep hS
    · rename_i hx; simp only [hx] at h
      obtain ⟨h1, h2, h3, te, vals, own, h4⟩ := h
      exact ⟨h1, h2, h3, te, vals, ownsRow_heap own fun k hk => hS k (by rw [h3, hk]; simp), fun j d u hd hu => (h4 j d u hd hu).mono fun b hb => ⟨(E.stab b hb).2, (E.stab b hb).1⟩⟩

/-- What the abstract heap owns. -/
def Own (hp : Hp) (C : Co) (b : Nat) : Prop := ∃ id, hp id ≠ none ∧ b ∈ (C id).S

theorem stab_iff {hp : Hp} {C : Co} {w : World} {b : Nat} : Stab hp C w b ↔ b < w.heap.size ∧ C.U b ∧ ¬ Own hp C b := by
  unfold Stab Own
  constructor
  · rintro ⟨h1, h0, h2⟩; exact ⟨h1, h0, fun ⟨id, h3, h4⟩ => h2 id h3 h4⟩
  · rintro ⟨h1, h0, h2⟩; exact ⟨h1, h0, fun id h3 h4 => h2 ⟨id, h3, h4⟩⟩

/-- What a step leaves alone: all that is not owned. -/
structure Fr (w : World) (hp : Hp) (C : Co) (w' : World) (hp' : Hp) (C' : Co) : Prop where
  U : C'.U = C.U
  os : w'.os = w.os
  tape : w'.tape = w.tape
  output : w'.output = w.output
  size : w.heap.size ≤ w'.heap.size
  block : ∀ b, b < w.heap.size → ¬ Own hp C b → w'.heap[b]? = w.heap[b]?
  own : ∀ b, Own hp' C' b → Own hp C b ∨ w.heap.size ≤ b
  frz : ∀ a, w'.frozen? a = w.frozen? a

theorem IdEv.refl (w : World) (c : CB) (blk : Blk) : IdEv w w c blk c blk := by
  cases blk with
  | dead => simp [IdEv]
  | held => simp [IdEv]
  | box cells => simp [IdEv]
  | row x ver e xs => exact ⟨rfl, Nat.le_refl _, fun _ => rfl, Nat.le_refl _, fun _ b hb => ⟨hb, rfl⟩⟩

theorem IdEv.trans {w w1 w2 : World} {c c1 c2 : CB} {b b1 b2 : Blk} (h : IdEv w w1 c b c1 b1) (k : IdEv w1 w2 c1 b1 c2 b2) : IdEv w w2 c b c2 b2 := by
  cases b <;> cases b1 <;> cases b2 <;> simp [IdEv] at h k ⊢
  · exact k.trans h
  · obtain ⟨rfl, h2, h3, h4, h5⟩ := h
    obtain ⟨rfl, k2, k3, k4, k5⟩ := k
    refine ⟨rfl, by omega, fun hl => (k3 (by omega)).trans (h3 (by omega)), by omega, fun hv b hb => ?_⟩
    obtain ⟨h6, h7⟩ := h5 (by omega) b hb
    obtain ⟨k6, k7⟩ := k5 (by omega) b h6
    exact ⟨k6, k7.trans h7⟩

/-- The blocks that came in (numbers below V) live on. -/
def VEv (V : Nat) (w : World) (hp : Hp) (C : Co) (w' : World) (hp' : Hp) (C' : Co) : Prop :=
  ∀ id, id < V → ∀ blk, hp id = some blk → ∃ blk', hp' id = some blk' ∧ IdEv w w' (C id) blk (C' id) blk'
theorem VEv.refl (V : Nat) (w : World) (hp : Hp) (C : Co) : VEv V w hp C w hp C := fun id _ blk h => ⟨blk, h, IdEv.refl ..⟩
theorem VEv.trans {V : Nat} {w w1 w2 : World} {hp hp1 hp2 : Hp} {C C1 C2 : Co} (h : VEv V w hp C w1 hp1 C1) (k : VEv V w1 hp1 C1 w2 hp2 C2) : VEv V w hp C w2 hp2 C2 := fun id hid blk hb => by
  obtain ⟨b1, h1, h2⟩ := h id hid blk hb
  obtain ⟨b2, k1, k2⟩ := k id hid b1 h1
  exact ⟨b2, k1, h2.trans k2⟩
theorem Ev.vev {V : Nat} {w : World} {hp : Hp} {C : Co} {w' : World} {hp' : Hp} {C' : Co} (h : Ev w hp C w' hp' C') : VEv V w hp C w' hp' C' := fun id _ blk hb => h.ids id blk hb

theorem Fr.refl (w : World) (hp : Hp) (C : Co) : Fr w hp C w hp C := ⟨rfl, rfl, rfl, rfl, Nat.le_refl _, fun _ _ _ => rfl, fun _ h => .inl h, fun _ => rfl⟩
theorem Fr.trans {w w1 w2 : World} {hp hp1 hp2 : Hp} {C C1 C2 : Co} (h : Fr w hp C w1 hp1 C1) (k : Fr w1 hp1 C1 w2 hp2 C2) : Fr w hp C w2 hp2 C2 := by
  refine ⟨k.U.trans h.U, k.os.trans h.os, k.tape.trans h.tape, k.output.trans h.output, Nat.le_trans h.size k.size, fun b hb ho => ?_, fun b hb => ?_, fun a => (k.frz a).trans (h.frz a)⟩
  · refine (k.block b (Nat.lt_of_lt_of_le hb h.size) fun hn => ?_).trans (h.block b hb ho)
    rcases h.own b hn with h1 | h1
    · exact ho h1
    · omega
  · rcases k.own b hb with h1 | h1
    · exact h.own b h1
    · exact .inr (Nat.le_trans h.size h1)


theorem frozen_alloc (w : World) (c : Array Value) (t : TypeId) (a : Addr) : (w.alloc (.cells c t)).frozen? a = w.frozen? a := by
  by_cases h : a.block = w.heap.size
  · have e1 : (w.alloc (.cells c t)).heap[a.block]? = some (.cells c t) := by rw [h]; exact heap_alloc_new w _
    have e2 : w.heap[a.block]? = none := by rw [h]; simp
    simp [World.frozen?, e1, e2]
  · exact World.frozen?_alloc_old _ _ _ h
theorem frozen_setRow (w : World) (g : Nat) (cs : Array Value) (a : Addr) : (w.setRow g cs).frozen? a = w.frozen? a := by
  simp only [World.frozen?, World.setRow, Array.getElem?_modify]
  by_cases h : g = a.block
  · subst h
    cases hh : w.heap[a.block]? with
    | none => simp [hh]
    | some o => cases o <;> simp [hh]
  · simp [h]

/-- ONE STEP OF THE HEAP: blocks T may turn (or be new); all others stand. -/
theorem turn_conc {w w' : World} {hp hp' : Hp} {C C' : Co} (T : Nat → Prop) (H : HConc w hp C) (hU : C'.U = C.U)
    (os : w'.os = w.os) (tape : w'.tape = w.tape) (output : w'.output = w.output) (size : w.heap.size ≤ w'.heap.size) (hfz : ∀ a, w'.frozen? a = w.frozen? a)
    (hout : ∀ b, b < w.heap.size → (∀ id, T id → hp id ≠ none → b ∉ (C id).S) → w'.heap[b]? = w.heap[b]?)
    (hold : ∀ id, ¬ T id → hp' id = hp id ∧ C' id = C id)
    (hid : ∀ id blk, T id → hp id = some blk → ∃ blk', hp' id = some blk' ∧ IdEv w w' (C id) blk (C' id) blk')
    (hS : ∀ id, T id → hp' id ≠ none → ∀ b ∈ (C' id).S, w.heap.size ≤ b ∨ ∃ id0, T id0 ∧ hp id0 ≠ none ∧ b ∈ (C id0).S)
    (hnd : ∀ id, T id → hp' id ≠ none → (C' id).S.Nodup)
    (hap : ∀ i j, i ≠ j → T i → T j → hp' i ≠ none → hp' j ≠ none → ∀ b ∈ (C' i).S, b ∉ (C' j).S) :
    Ev w hp C w' hp' C' ∧ Fr w hp C w' hp' C' ∧ ((∀ id blk, T id → hp' id = some blk → BRep w' hp' C' id blk) → HConc w' hp' C') := by
  have hkeep : ∀ id, ¬ T id → hp id ≠ none → ∀ b ∈ (C id).S, w'.heap[b]? = w.heap[b]? := fun id hT hi b hb =>
    hout b (H.lt hi b hb) fun id0 hT0 hi0 hb0 => H.apart id id0 (fun e => hT (e ▸ hT0)) hi hi0 b hb hb0
  have hE : Ev w hp C w' hp' C' := by
    refine ⟨hU, fun b hb => ⟨hout b hb.1 fun id _ hi => hb.2.2 id hi, Nat.lt_of_lt_of_le hb.1 size, by rw [hU]; exact hb.2.1, fun id hi => ?_⟩, fun id blk hi => ?_⟩
    · by_cases hT : T id
      · intro hbS
        rcases hS id hT hi b hbS with h | ⟨id0, _, h0, h1⟩
        · have := hb.1; omega
        · exact hb.2.2 id0 h0 h1
      · rw [(hold id hT).2]
        rw [(hold id hT).1] at hi
        exact hb.2.2 id hi
    · by_cases hT : T id
      · exact hid id blk hT hi
      · refine ⟨blk, by rw [(hold id hT).1]; exact hi, ?_⟩
        rw [(hold id hT).2]
        cases blk with
        | dead => simp [IdEv]
        | held => simp [IdEv]
        | box cells => simp [IdEv]
        | row x ver e xs => exact ⟨rfl, Nat.le_refl _, fun _ => rfl, Nat.le_refl _, fun _ b hb => ⟨hb, hkeep id hT (by simp [hi]) b hb⟩⟩
  refine ⟨hE, ⟨hU, os, tape, output, size, fun b hb ho => hout b hb fun id _ hi hbS => ho ⟨id, hi, hbS⟩, fun b hb => ?_, hfz⟩, fun hrep => ⟨fun b hb => by rw [hU]; exact H.up b (Nat.le_trans size hb), fun id hi b hbS => ?_, fun id blk hi => ?_, fun id hi => ?_, fun i j hij hi hj b hb => ?_⟩⟩
  · obtain ⟨id, hi, hbS⟩ := hb
    by_cases hT : T id
    · rcases hS id hT hi b hbS with h | ⟨id0, _, h0, h1⟩
      · exact .inr h
      · exact .inl ⟨id0, h0, h1⟩
    · rw [(hold id hT).1] at hi; rw [(hold id hT).2] at hbS
      exact .inl ⟨id, hi, hbS⟩
  · rw [hU]
    by_cases hT : T id
    · rcases hS id hT hi b hbS with h | ⟨id0, _, h0, h1⟩
      · exact H.up b h
      · exact H.inU id0 h0 b h1
    · rw [(hold id hT).1] at hi; rw [(hold id hT).2] at hbS
      exact H.inU id hi b hbS
  · by_cases hT : T id
    · exact hrep id blk hT hi
    · have hi' := hi
      rw [(hold id hT).1] at hi'
      exact (H.rep id blk hi').kept size hE (hold id hT).2 (hkeep id hT (by simp [hi']))
  · by_cases hT : T id
    · exact hnd id hT hi
    · rw [(hold id hT).1] at hi; rw [(hold id hT).2]; exact H.nodup id hi
  · by_cases hTi : T i <;> by_cases hTj : T j
    · exact hap i j hij hTi hTj hi hj b hb
    · rw [(hold j hTj).1] at hj; rw [(hold j hTj).2]
      intro hbj
      rcases hS i hTi hi b hb with h | ⟨id0, hT0, h0, h1⟩
      · have := H.lt hj b hbj; omega
      · exact H.apart id0 j (fun e => hTj (e ▸ hT0)) h0 hj b h1 hbj
    · rw [(hold i hTi).1] at hi; rw [(hold i hTi).2] at hb
      intro hbj
      rcases hS j hTj hj b hbj with h | ⟨id0, hT0, h0, h1⟩
      · have := H.lt hi b hb; omega
      · exact H.apart i id0 (fun e => hTi (e ▸ hT0)) hi h0 b hb h1
    · rw [(hold i hTi).1] at hi; rw [(hold i hTi).2] at hb
      rw [(hold j hTj).1] at hj; rw [(hold j hTj).2]
      exact H.apart i j hij hi hj b hb

end Go.Al
