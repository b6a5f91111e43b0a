/- The abstract logic, part 10: running it. -/
import Derived.Test.YtjdmlcpngddgaaaAlCall3
set_option linter.unusedVariables false
set_option linter.unusedSimpArgs false
namespace Go.Al
open Go Go.RowKit

inductive Kf where
  | code (c : Code)
  | ops (ops : Array Oper) (l : List Oper)
  | blk (id : Nat)
  | inv (R : St → Prop)

def AGo (P : Program) (V : Nat) (Q : Exit → St → Prop) : List Kf → Exit → St → Prop
  | [], e, σ => Q e σ
  | .blk id :: k, e, σ => (match e with
    | .exit i => if i = id then AGo P V Q k .normal σ else AGo P V Q k (.exit i) σ
    | e => AGo P V Q k e σ)
  | .code c :: k, e, σ => (match e with
    | .normal => AWp P V c (AGo P V Q k) σ
    | e => AGo P V Q k e σ)
  | .ops ops l :: k, e, σ => (match e with
    | .normal => ARun P ops (AGo P V Q k .normal) l σ
    | e => AGo P V Q k e σ)
  | .inv R :: k, e, σ => (match e with
    | .normal => R σ
    | e => AGo P V Q k e σ)

section
variable {P : Program} {V : Nat} {Q : Exit → St → Prop} {k : List Kf} {σ : St}
theorem AGo.seq {x y : Code} (h : AGo P V Q (.code x :: .code y :: k) .normal σ) : AGo P V Q (.code (.seq x y) :: k) .normal σ := by
  simp only [AGo] at h ⊢
  refine AWp.seq (AWp.mono h fun e σ' he => ?_)
  cases e <;> simp only [AGo, thenQ] at he ⊢ <;> exact he
theorem AGo.block {id : Nat} {c : Code} (h : AGo P V Q (.code c :: .blk id :: k) .normal σ) : AGo P V Q (.code (.block id c) :: k) .normal σ := by
  simp only [AGo] at h ⊢
  refine AWp.block (AWp.mono h fun e σ' he => ?_)
  cases e <;> simp only [AGo, blockQ] at he ⊢ <;> exact he
theorem AGo.region {id : Nat} {ops : Array Oper} (h : AGo P V Q (.ops ops ops.toList :: k) .normal σ) : AGo P V Q (.code (.region id ops false) :: k) .normal σ := by
  simp only [AGo] at h ⊢
  exact AWp.region h
theorem AGo.op {ops : Array Oper} {o : Oper} {l : List Oper} {out : Out} (hw : wantedA ops o σ = some true) (ho : OpOk P o σ out) (h : AGo P V Q (.ops ops l :: k) .normal (σ.app o.dst out)) :
    AGo P V Q (.ops ops (o :: l) :: k) .normal σ := by
  simp only [AGo, ARun] at h ⊢
  rw [hw]
  exact ⟨Unit, fun _ => out, fun C a w hc => Oper.wp_mono (fun a' w' h => ⟨(), h⟩) (ho C a w hc), fun _ => h⟩
theorem AGo.ops {ops : Array Oper} {o : Oper} {l : List Oper} {I : Type} (outs : I → Out) (hw : wantedA ops o σ = some true) (ho : ∀ C a w, Conc σ C a w → OpX P o σ outs C a w)
    (h : ∀ i, AGo P V Q (.ops ops l :: k) .normal (σ.app o.dst (outs i))) : AGo P V Q (.ops ops (o :: l) :: k) .normal σ := by
  simp only [AGo, ARun] at h ⊢
  rw [hw]
  exact ⟨I, outs, ho, h⟩
theorem AGo.cond {c : Operand} {x y : Code} {t : Bool} (hc : σ.ev c = .bool t) (hx : t = true → AGo P V Q (.code x :: k) .normal σ) (hy : t = false → AGo P V Q (.code y :: k) .normal σ) :
    AGo P V Q (.code (.cond c x y) :: k) .normal σ := by
  simp only [AGo] at hx hy ⊢
  exact AWp.cond hc hx hy
theorem AGo.le {σ' : St} (hl : Le V σ σ') {c : Code} (h : AGo P V Q (.code c :: k) .normal σ') : AGo P V Q (.code c :: k) .normal σ := by
  simp only [AGo] at h ⊢
  exact AWp.le hl h
theorem AGo.loop {X : Type} {c : Code} (S : X → St) (μ : X → Nat) (x0 : X)
    (round : ∀ x, AGo P V Q (.code c :: .inv (fun σ' => ∃ x', μ x' < μ x ∧ Le V σ' (S x')) :: k) .normal (S x)) : AGo P V Q (.code (.loop c) :: k) .normal (S x0) := by
  simp only [AGo] at round ⊢
  refine AWp.loop S μ (fun x => AWp.mono (round x) fun e σ' he => ?_) x0
  cases e <;> simp only [thenQ, AGo] at he ⊢ <;> exact he
theorem AGo.ret_all (h : Q .ret σ) : ∀ k : List Kf, AGo P V Q k .ret σ
  | [] => h
  | .blk _ :: k => by simp only [AGo]; exact AGo.ret_all h k
  | .code _ :: k => by simp only [AGo]; exact AGo.ret_all h k
  | .ops _ _ :: k => by simp only [AGo]; exact AGo.ret_all h k
  | .inv _ :: k => by simp only [AGo]; exact AGo.ret_all h k
end

/-! ### States that can be read -/
def tmA : List (Nat × AV) → Nat → AV
  | [], _ => .any
  | (k, v) :: l, t => match Nat.beq t k with
    | true => v
    | false => tmA l t
def hpL (h : List (Option Blk)) : Hp := fun id => h.getD id none
theorem tmA_upd (l : List (Nat × AV)) (d : Nat) (v : AV) : upd (tmA l) d v = tmA ((d, v) :: l) := by
  funext t
  simp only [upd, tmA]
  cases hb : Nat.beq t d with
  | true => simp [Nat.eq_of_beq_eq_true hb]
  | false => simp [Nat.ne_of_beq_eq_false hb]
theorem hpL_new (h : List (Option Blk)) (b : Blk) : upd (hpL h) h.length (some b) = hpL (h ++ [some b]) := by
  funext i
  simp only [upd, hpL, List.getD_eq_getElem?_getD]
  split
  · rename_i hi; subst hi; simp
  · rename_i hi
    by_cases hl : i < h.length
    · rw [List.getElem?_append_left hl]
    · rw [List.getElem?_eq_none (by omega), List.getElem?_eq_none (by simp; omega)]
theorem hpL_set (h : List (Option Blk)) {i : Nat} (b : Option Blk) (hi : i < h.length) : upd (hpL h) i b = hpL (h.set i b) := by
  funext j
  simp only [upd, hpL, List.getD_eq_getElem?_getD, List.getElem?_set]
  split
  · rename_i hj; subst hj; simp [hi]
  · rename_i hj; rw [if_neg (fun e => hj e.symm)]
theorem hpL_fresh (h : List (Option Blk)) : hpL h h.length = none := by simp [hpL]
theorem hpL_lt {h : List (Option Blk)} {i : Nat} {b : Blk} (hb : hpL h i = some b) : i < h.length := by
  by_cases hl : i < h.length
  · exact hl
  · simp [hpL, List.getD_eq_getElem?_getD, List.getElem?_eq_none (Nat.le_of_not_lt hl)] at hb

def ids : List Nat := [0, 1, 2, 3, 4, 5, 6, 7, 8, 9, 10, 11, 12, 13, 14, 15, 16, 17, 18, 19, 20, 21, 22, 23, 24, 25, 26, 27, 28, 29, 30, 31, 32, 33, 34, 35, 36, 37, 38, 39, 40, 41, 42, 43, 44, 45, 46, 47, 48, 49, 50, 51, 52, 53, 54, 55, 56, 57, 58, 59]
/-! ### In normal form -/
section
variable {β : Type}
def idK : List Nat → Nat → (Nat → β) → β
  | [], i, k => k i
  | n :: ns, i, k => match Nat.beq i n with
    | true => k n
    | false => idK ns i k
theorem idK_eq : ∀ (ns : List Nat) (i : Nat) (k : Nat → β), idK ns i k = k i
  | [], i, k => rfl
  | n :: ns, i, k => by
    simp only [idK]
    split
    · rename_i h; rw [Nat.eq_of_beq_eq_true h]
    · exact idK_eq ns i k
def nf1 (a : AV) (k : AV → β) : β :=
  match a with
  | .any => k .any
  | .und => k .und
  | .int kk n => k (.int kk n)
  | .bool b => k (.bool b)
  | .str s => k (.str s)
  | .sl m xs => k (.sl m xs)
  | .row id len => idK ids id fun id => k (.row id len)
  | .ptr id off => idK ids id fun id => idK ids off fun off => k (.ptr id off)
  | .rptr id len i off => k (.rptr id len i off)
  | .cel id len ver j => k (.cel id len ver j)
  | .iptr m cs => k (.iptr m cs)
  | .agg cs => k (.agg cs)
  | .tup vs => k (.tup vs)
  | .fn g caps => k (.fn g caps)
  | .nil => k .nil
  | .nilp => k .nilp
def nfL : List AV → (List AV → β) → β
  | [], k => k []
  | a :: as, k => nf1 a fun a' => nfL as fun as' => k (a' :: as')
def nfA (a : AV) (k : AV → β) : β :=
  match a with
  | .agg cs => nfL cs fun cs' => k (.agg cs')
  | .fn g cs => nfL cs fun cs' => k (.fn g cs')
  | a => nf1 a k
def nfAs : List AV → (List AV → β) → β
  | [], k => k []
  | a :: as, k => nfA a fun a' => nfAs as fun as' => k (a' :: as')
def nfT (a : AV) (k : AV → β) : β :=
  match a with
  | .tup cs => nfAs cs fun cs' => k (.tup cs')
  | a => nfA a k
def nfB (b : Blk) (k : Blk → β) : β :=
  match b with
  | .box cells => nfL cells fun c => k (.box c)
  | b => k b
def setK : List (Option Blk) → Nat → Option Blk → (List (Option Blk) → β) → β
  | [], _, _, k => k []
  | _ :: h, 0, b, k => k (b :: h)
  | x :: h, i + 1, b, k => setK h i b fun h' => k (x :: h')
def appK : List (Option Blk) → Option Blk → (List (Option Blk) → β) → β
  | [], b, k => k [b]
  | x :: h, b, k => appK h b fun h' => k (x :: h')
def freshK : List (Option Blk) → List Nat → β → (Nat → β) → β
  | [], n :: _, _, k => k n
  | _ :: h, _ :: ns, z, k => freshK h ns z k
  | _, [], z, _ => z

theorem nf1_eq (a : AV) (k : AV → β) : nf1 a k = k a := by cases a <;> simp only [nf1, idK_eq]
theorem nfL_eq : ∀ (l : List AV) (k : List AV → β), nfL l k = k l
  | [], k => rfl
  | a :: as, k => by simp only [nfL, nf1_eq, nfL_eq]
theorem nfA_eq (a : AV) (k : AV → β) : nfA a k = k a := by cases a <;> simp only [nfA, nfL_eq, nf1_eq]
theorem nfAs_eq : ∀ (l : List AV) (k : List AV → β), nfAs l k = k l
  | [], k => rfl
  | a :: as, k => by simp only [nfAs, nfA_eq, nfAs_eq]
theorem nfT_eq (a : AV) (k : AV → β) : nfT a k = k a := by cases a <;> simp only [nfT, nfAs_eq, nfA_eq]
theorem nfB_eq (a : Blk) (k : Blk → β) : nfB a k = k a := by cases a <;> simp only [nfB, nfL_eq]
theorem setK_eq : ∀ (h : List (Option Blk)) (i : Nat) (b : Option Blk) (k : List (Option Blk) → β), setK h i b k = k (h.set i b)
  | [], i, b, k => rfl
  | _ :: h, 0, b, k => rfl
  | x :: h, i + 1, b, k => by simp only [setK, setK_eq h, List.set_cons_succ]
theorem appK_eq : ∀ (h : List (Option Blk)) (b : Option Blk) (k : List (Option Blk) → β), appK h b k = k (h ++ [b])
  | [], b, k => rfl
  | x :: h, b, k => by simp only [appK, appK_eq h, List.cons_append]
theorem freshK_eq : ∀ (h : List (Option Blk)) (m j : Nat) (z : β) (k : Nat → β), h.length < m → freshK h (List.range' j m) z k = k (j + h.length)
  | [], m + 1, j, z, k, _ => rfl
  | _ :: h, m + 1, j, z, k, hl => by
    simp only [List.length_cons] at hl
    simp only [List.range'_succ, freshK, List.length_cons]
    rw [freshK_eq h m (j + 1) z k (by omega)]
    congr 1; omega
  | h, 0, j, z, k, hl => by omega
theorem freshK_none : ∀ (h : List (Option Blk)) (m j : Nat) (z : β) (k : Nat → β), m ≤ h.length → freshK h (List.range' j m) z k = z
  | [], 0, j, z, k, _ => rfl
  | _ :: h, 0, j, z, k, _ => rfl
  | [], m + 1, j, z, k, hl => by simp at hl
  | _ :: h, m + 1, j, z, k, hl => by
    simp only [List.length_cons] at hl
    simp only [List.range'_succ, freshK]
    exact freshK_none h m (j + 1) z k (by omega)
end

theorem ids_eq : ids = List.range' 0 60 := by rfl

/-- The table that a text works with. -/
class TyF (P : Program) (F : Ty) : Prop where
  eq : F = tyI P

/-! ### One step -/
abbrev Hl := List (Option Blk)
abbrev Tm := List (Nat × AV)
def newBox (h : Hl) (cells : List AV) : Option (AV × Hl) := freshK h ids none fun n => nfL cells fun cells => appK h (some (.box cells)) fun h' => some (.ptr n 0, h')

def evQ (F : Ty) (σ : St) (h : Hl) (o : Oper) : Option (AV × Hl) :=
  match o.op with
  | .alloc t => match zrOf F t with
    | some cells => newBox h cells
    | none => none
  | .box _ x => match avCells (σ.ev x) with
    | some cells => newBox h cells
    | none => none
  | .load t x => match evLoad F σ.hp t (σ.ev x) with
    | some v => some (v, h)
    | none => none
  | .indexAddr t x i => match evIndexAddr F σ.hp t (σ.ev x) (σ.ev i) with
    | some v => some (v, h)
    | none => none
  | .store t x y => match evStoreBox F σ.hp t (σ.ev x) (σ.ev y) with
    | some (id, cells) => nfL cells fun cells => setK h id (some (.box cells)) fun h' => some (.any, h')
    | none => none
  | .build t parts => match zrOf F t, plOf F t with
    | some z, some pl => match fillA (fun i => pl[i]?) z (parts.toList.map fun p => (p.1, σ.ev p.2)) with
      | some cs => some (.agg cs, h)
      | none => none
    | _, _ => none
  | .call c => match c with
    | { callee := .builtin .len, args := ⟨[x]⟩, argTypes := ⟨[t]⟩ } => match evLen F σ.hp t (σ.ev x) with
      | some v => some (v, h)
      | none => none
    | { callee := .builtin .max, args := ⟨[x, y]⟩, argTypes := _ } => match σ.ev x, σ.ev y with
      | .int .i64 m, .int .i64 n => some (.int .i64 (if n > m then n else m), h)
      | _, _ => none
    | { callee := .builtin .min, args := ⟨[x, y]⟩, argTypes := _ } => match σ.ev x, σ.ev y with
      | .int .i64 m, .int .i64 n => some (.int .i64 (if n < m then n else m), h)
      | _, _ => none
    | _ => none
  | _ => match evPure F σ o with
    | some v => some (v, h)
    | none => none

def loudOp (o : Oper) : Bool := match o.op with
  | .alloc _ => true
  | .box _ _ => true
  | .store _ _ _ => true
  | _ => false

theorem newBox_some {h h' : Hl} {cells : List AV} {v : AV} (e : newBox h cells = some (v, h')) : v = .ptr h.length 0 ∧ h' = h ++ [some (.box cells)] := by
  unfold newBox at e
  rw [ids_eq] at e
  by_cases hl : h.length < 60
  · rw [freshK_eq h 60 0 _ _ hl, nfL_eq, appK_eq] at e
    simp at e
    exact ⟨e.1.symm, e.2.symm⟩
  · rw [freshK_none h 60 0 _ _ (by omega)] at e
    simp at e

theorem evQ_ok {P : Program} {σ : St} {h h' : Hl} {o : Oper} {v : AV} (hh : σ.hp = hpL h) (e : evQ (tyI P) σ h o = some (v, h')) : ∃ ws, OpOk P o σ ⟨v, ws⟩ ∧ writes (hpL h) ws = hpL h' ∧ loudOp o = !ws.isEmpty := by
  have hN : σ.hp h.length = none := by rw [hh]; exact hpL_fresh h
  obtain ⟨dst, op, type, pos, after, guard⟩ := o
  unfold evQ at e
  split at e
  · rename_i t ho
    split at e
    · rename_i cells hz
      obtain ⟨rfl, rfl⟩ := newBox_some e
      exact ⟨_, ok_alloc ho hz hN, hpL_new .., by simp only at ho; subst ho; rfl⟩
    · simp at e
  · rename_i t x ho
    split at e
    · rename_i cells hz
      obtain ⟨rfl, rfl⟩ := newBox_some e
      exact ⟨_, ok_box ho hz hN, hpL_new .., by simp only at ho; subst ho; rfl⟩
    · simp at e
  · rename_i t x ho
    split at e
    · rename_i u hz
      simp at e; obtain ⟨rfl, rfl⟩ := e
      exact ⟨_, ok_load ho hz, rfl, by simp only at ho; subst ho; rfl⟩
    · simp at e
  · rename_i t x i ho
    split at e
    · rename_i u hz
      simp at e; obtain ⟨rfl, rfl⟩ := e
      exact ⟨_, ok_indexAddr ho hz, rfl, by simp only at ho; subst ho; rfl⟩
    · simp at e
  · rename_i t x y ho
    split at e
    · rename_i id cells hz
      rw [nfL_eq, setK_eq] at e
      simp at e; obtain ⟨rfl, rfl⟩ := e
      refine ⟨_, ok_storeBox ho hz, ?_, by simp only at ho; subst ho; rfl⟩
      have hid : ∃ b, hpL h id = some b := by
        rw [hh] at hz
        unfold evStoreBox at hz
        split at hz
        · split at hz
          · rename_i h1 h2 h3
            simp only [Option.ite_none_right_eq_some, Option.some.injEq, Prod.mk.injEq] at hz
            obtain ⟨_, rfl, _⟩ := hz
            exact ⟨_, h1⟩
          · simp at hz
        · simp at hz
      obtain ⟨b, hb⟩ := hid
      exact hpL_set h _ (hpL_lt hb)
    · simp at e
  · rename_i t parts ho
    split at e
    · rename_i z pl hz hp
      split at e
      · rename_i cs hc
        simp at e; obtain ⟨rfl, rfl⟩ := e
        exact ⟨_, ok_build ho hz hp hc, rfl, by simp only at ho; subst ho; rfl⟩
      · simp at e
    · simp at e
  · rename_i c ho
    split at e
    · rename_i x t
      split at e
      · rename_i u hz
        simp at e; obtain ⟨rfl, rfl⟩ := e
        exact ⟨_, ok_len ho hz, rfl, by simp only at ho; subst ho; rfl⟩
      · simp at e
    · rename_i x y ts
      split at e
      · rename_i m n h1 h2
        simp at e; obtain ⟨rfl, rfl⟩ := e
        exact ⟨_, ok_max ho h1 h2 rfl, rfl, by simp only at ho; subst ho; rfl⟩
      · simp at e
    · rename_i x y ts
      split at e
      · rename_i m n h1 h2
        simp at e; obtain ⟨rfl, rfl⟩ := e
        exact ⟨_, ok_min ho h1 h2 rfl, rfl, by simp only at ho; subst ho; rfl⟩
      · simp at e
    · simp at e
  · rename_i k1 k2 k3 k4 k5 k6 k7
    split at e
    · rename_i u hz
      simp at e; obtain ⟨rfl, rfl⟩ := e
      refine ⟨_, evPure_ok hz, rfl, ?_⟩
      simp only at k1 k2 k5
      cases op <;> first | rfl | exact absurd rfl (k1 _) | exact absurd rfl (k2 _ _) | exact absurd rfl (k5 _ _ _)
    · simp at e

def putL (dst : Option Tmp) (v : AV) (l : Tm) : Tm := match dst with
  | some d => (d, v) :: l
  | none => l
def exitK {β : Type} (i : Nat) (z : β) (k : List Kf → β) : List Kf → β
  | [] => z
  | .blk id :: r => match Nat.beq i id with
    | true => k r
    | false => exitK i z k r
  | _ :: r => exitK i z k r

def run1 (F : Ty) (nt : Nat) (k : List Kf) (l : Tm) (h : Hl) : Option (List Kf × Tm × Hl) :=
  match k with
  | .code (.seq x y) :: k => some (.code x :: .code y :: k, l, h)
  | .code .skip :: k => some (k, l, h)
  | .code (.label _) :: k => some (k, l, h)
  | .code (.region _ ⟨os⟩ false) :: k => some (.ops ⟨os⟩ os :: k, l, h)
  | .code (.block id c) :: k => some (.code c :: .blk id :: k, l, h)
  | .code (.exit i) :: k => exitK i none (fun k' => some (k', l, h)) k
  | .code (.cond c x y) :: k => (match (St.mk nt (tmA l) (hpL h)).ev c with
    | .bool true => some (.code x :: k, l, h)
    | .bool false => some (.code y :: k, l, h)
    | _ => none)
  | .blk _ :: k => some (k, l, h)
  | .ops _ [] :: k => some (k, l, h)
  | .ops os (o :: r) :: k => (match wantedA os o (St.mk nt (tmA l) (hpL h)) with
    | some false => (match o.dst with
      | some d => some (.ops os r :: k, (d, .und) :: l, h)
      | none => some (.ops os r :: k, l, h))
    | some true => (match evQ F (St.mk nt (tmA l) (hpL h)) h o with
      | some (v, h') => (match o.dst with
        | some d => nfT v fun v => some (.ops os r :: k, (d, v) :: l, h')
        | none => some (.ops os r :: k, l, h'))
      | none => none)
    | none => none)
  | _ => none

theorem exitK_ok {P : Program} {V : Nat} {Q : Exit → St → Prop} {σ : St} {i : Nat} : ∀ {k k' : List Kf} {l l' : Tm} {h h' : Hl}, exitK i none (fun k' => some (k', l, h)) k = some (k', l', h') →
    l' = l ∧ h' = h ∧ (AGo P V Q k' .normal σ → AGo P V Q k (.exit i) σ)
  | [], k', l, l', h, h', e => by simp [exitK] at e
  | .blk id :: r, k', l, l', h, h', e => by
    simp only [exitK] at e
    split at e
    · rename_i hb
      simp at e; obtain ⟨rfl, rfl, rfl⟩ := e
      refine ⟨rfl, rfl, fun hg => ?_⟩
      simp only [AGo, Nat.eq_of_beq_eq_true hb, if_true]
      exact hg
    · rename_i hb
      obtain ⟨h1, h2, h3⟩ := exitK_ok (P := P) (V := V) (Q := Q) (σ := σ) e
      refine ⟨h1, h2, fun hg => ?_⟩
      simp only [AGo, Nat.ne_of_beq_eq_false hb, if_false]
      exact h3 hg
  | .code c :: r, k', l, l', h, h', e => by
    simp only [exitK] at e
    obtain ⟨h1, h2, h3⟩ := exitK_ok (P := P) (V := V) (Q := Q) (σ := σ) e
    exact ⟨h1, h2, fun hg => by simp only [AGo]; exact h3 hg⟩
  | .inv _ :: r, k', l, l', h, h', e => by
    simp only [exitK] at e
    obtain ⟨h1, h2, h3⟩ := exitK_ok (P := P) (V := V) (Q := Q) (σ := σ) e
    exact ⟨h1, h2, fun hg => by simp only [AGo]; exact h3 hg⟩
  | .ops _ _ :: r, k', l, l', h, h', e => by
    simp only [exitK] at e
    obtain ⟨h1, h2, h3⟩ := exitK_ok (P := P) (V := V) (Q := Q) (σ := σ) e
    exact ⟨h1, h2, fun hg => by simp only [AGo]; exact h3 hg⟩

theorem go1 {P : Program} {F : Ty} [hF : TyF P F] {V nt : Nat} {Q : Exit → St → Prop} {k k' : List Kf} {l l' : Tm} {h h' : Hl} (e : run1 F nt k l h = some (k', l', h'))
    (hg : AGo P V Q k' .normal ⟨nt, tmA l', hpL h'⟩) : AGo P V Q k .normal ⟨nt, tmA l, hpL h⟩ := by
  have hF := hF.eq
  subst hF
  unfold run1 at e
  split at e
  · simp at e; obtain ⟨rfl, rfl, rfl⟩ := e; exact AGo.seq hg
  · simp at e; obtain ⟨rfl, rfl, rfl⟩ := e; simp only [AGo]; exact AWp.skip hg
  · simp at e; obtain ⟨rfl, rfl, rfl⟩ := e; simp only [AGo]; exact AWp.label hg
  · simp at e; obtain ⟨rfl, rfl, rfl⟩ := e; exact AGo.region hg
  · simp at e; obtain ⟨rfl, rfl, rfl⟩ := e; exact AGo.block hg
  · obtain ⟨rfl, rfl, h3⟩ := exitK_ok (P := P) (V := V) (Q := Q) (σ := ⟨nt, tmA l, hpL h⟩) e
    simp only [AGo]; exact AWp.exit (h3 hg)
  · split at e
    · rename_i hc
      simp at e; obtain ⟨rfl, rfl, rfl⟩ := e
      exact AGo.cond hc (fun _ => hg) (by simp)
    · rename_i hc
      simp at e; obtain ⟨rfl, rfl, rfl⟩ := e
      exact AGo.cond hc (by simp) (fun _ => hg)
    · simp at e
  · simp at e; obtain ⟨rfl, rfl, rfl⟩ := e; simp only [AGo]; exact hg
  · simp at e; obtain ⟨rfl, rfl, rfl⟩ := e; simp only [AGo, ARun]; exact hg
  · rename_i os o r k
    split at e
    · rename_i hw
      simp only [AGo, ARun]
      rw [hw]
      simp only
      split at e
      · rename_i d hd
        simp at e; obtain ⟨rfl, rfl, rfl⟩ := e
        simp only [AGo] at hg
        simpa [St.put, hd, tmA_upd] using hg
      · rename_i hd
        simp at e; obtain ⟨rfl, rfl, rfl⟩ := e
        simp only [AGo] at hg
        simpa [St.put, hd] using hg
    · rename_i hw
      split at e
      · rename_i v h2 hq
        obtain ⟨ws, h3, h4, _⟩ := evQ_ok rfl hq
        refine AGo.op hw h3 ?_
        split at e
        · rename_i d hd
          rw [nfT_eq] at e
          simp at e; obtain ⟨rfl, rfl, rfl⟩ := e
          simpa [St.app, St.put, hd, tmA_upd, h4] using hg
        · rename_i hd
          simp at e; obtain ⟨rfl, rfl, rfl⟩ := e
          simpa [St.app, St.put, hd, h4] using hg
      · simp at e
    · simp at e
  · simp at e

end Go.Al
