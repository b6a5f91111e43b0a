/- The abstract logic, part 2: states, and the operations that leave memory alone. -/
import Derived.Test.YtjdmlcpngddgaaaAlBase
import Derived.Laws.Small
set_option linter.unusedVariables false
set_option linter.unusedSimpArgs false
namespace Go.Al
open Go

structure St where
  nt : Nat
  tm : Nat → AV
  hp : Hp

structure Conc (σ : St) (C : Co) (a : Act) (w : World) : Prop where
  defers : a.defers = []
  size : a.tmps.size = σ.nt
  tmps : ∀ t v, a.tmps[t]? = some v → VRep w σ.hp C (σ.tm t) v
  heap : HConc w σ.hp C

def constAV : Value → AV
  | .int k n => if k.wrap n = n then .int k n else .any
  | .bool b => .bool b
  | .string s => if s.size ≤ maxLen then .str s else .any
  | .slice none 0 0 => .nil
  | .pointer none => .nilp
  | _ => .any

def St.ev (σ : St) : Operand → AV
  | .tmp t => if t < σ.nt then σ.tm t else .any
  | .const v => constAV v
  | .global _ => .any
  | .func f => .fn f []

theorem constAV_rep (w : World) (hp : Hp) (C : Co) (v : Value) : VRep w hp C (constAV v) v := by
  unfold constAV
  split
  · split
    · rename_i h; simp [VRep, h]
    · simp [VRep]
  · simp [VRep]
  · split
    · rename_i h; simp [VRep, h]
    · simp [VRep]
  · simp [VRep]
  · simp [VRep]
  · simp [VRep]

theorem Conc.ev {σ : St} {C : Co} {a : Act} {w : World} (h : Conc σ C a w) (x : Operand) : VRep w σ.hp C (σ.ev x) (a.eval x) := by
  cases x with
  | tmp t =>
    simp only [St.ev, Act.eval]
    split
    · rename_i ht
      have ht' : t < a.tmps.size := by rw [h.size]; exact ht
      have := h.tmps t a.tmps[t] (Array.getElem?_eq_getElem ht')
      simpa [Array.getD, ht'] using this
    · simp [VRep]
  | const v => exact constAV_rep _ _ _ v
  | global g => simp [St.ev, VRep]
  | func f => simp [St.ev, VRep, Act.eval, VReps]

def St.put (σ : St) (dst : Option Tmp) (v : AV) : St := match dst with
  | some d => { σ with tm := upd σ.tm d v }
  | none => σ

structure Out where
  v : AV
  ws : List (Nat × Blk)

def writes (hp : Hp) (ws : List (Nat × Blk)) : Hp := ws.foldl (fun h p => upd h p.1 (some p.2)) hp
def St.app (σ : St) (dst : Option Tmp) (out : Out) : St := { (σ.put dst out.v) with hp := writes σ.hp out.ws }
@[simp] theorem St.put_hp (σ : St) (dst : Option Tmp) (v : AV) : (σ.put dst v).hp = σ.hp := by cases dst <;> rfl
@[simp] theorem St.put_nt (σ : St) (dst : Option Tmp) (v : AV) : (σ.put dst v).nt = σ.nt := by cases dst <;> rfl
@[simp] theorem St.app_hp (σ : St) (dst : Option Tmp) (out : Out) : (σ.app dst out).hp = writes σ.hp out.ws := rfl
@[simp] theorem St.app_nt (σ : St) (dst : Option Tmp) (out : Out) : (σ.app dst out).nt = σ.nt := by simp [St.app]
theorem St.app_tm (σ : St) (dst : Option Tmp) (out : Out) : (σ.app dst out).tm = (σ.put dst out.v).tm := rfl

/-- The temporaries behind a step. -/
theorem Conc.put {σ : St} {C C' : Co} {a : Act} {w w' : World} (h : Conc σ C a w) (dst : Option Tmp) {v : AV} {u : Value} {hp' : Hp}
    (E : Ev w σ.hp C w' hp' C') (hv : VRep w' hp' C' v u) (hh : HConc w' hp' C') : Conc { (σ.put dst v) with hp := hp' } C' (a.put dst u) w' := by
  refine ⟨?_, ?_, ?_, hh⟩
  · cases dst <;> simp [Act.put, h.defers]
  · cases dst <;> simp [Act.put, h.size, St.put]
  · intro t x hx
    cases dst with
    | none => exact VRep.ev E (h.tmps t x (by simpa [Act.put] using hx))
    | some d =>
      simp only [St.put]
      by_cases htd : t = d
      · subst htd
        rw [upd_same]
        simp only [Act.put] at hx
        rw [Array.getElem?_setIfInBounds] at hx
        simp at hx
        obtain ⟨_, rfl⟩ := hx
        exact hv
      · rw [upd_ne _ _ htd]
        simp only [Act.put] at hx
        rw [Array.getElem?_setIfInBounds_ne (Ne.symm htd)] at hx
        exact VRep.ev E (h.tmps t x hx)

theorem Ev.refl (w : World) (hp : Hp) (C : Co) : Ev w hp C w hp C :=
  ⟨rfl, fun b h => ⟨rfl, h⟩, fun id blk h => ⟨blk, h, by cases blk <;> simp [IdEv]⟩⟩

/-! ### What an operation does -/
def OpOk (P : Program) (o : Oper) (σ : St) (out : Out) : Prop :=
  ∀ C a w, Conc σ C a w → o.wp P a w (fun a' w' => ∃ C', Conc (σ.app o.dst out) C' a' w' ∧ Ev w σ.hp C w' (writes σ.hp out.ws) C' ∧ Fr w σ.hp C w' (writes σ.hp out.ws) C') (fun _ _ _ => False)

def Out.new (out : Out) (hp : Hp) : List Nat := (out.ws.map (·.1)).filter fun id => (hp id).isNone

structure Ext (o : Oper) (σ σ' : St) (new : List Nat) : Prop where
  nt : σ'.nt = σ.nt
  ev : ∀ x ∈ o.op.operands, σ'.ev x = σ.ev x
  hp : ∀ id b, σ.hp id = some b → σ'.hp id = some b
  new : ∀ id ∈ new, σ'.hp id = none

/-- It does so in every state that holds what it looks at. -/
def Yd (P : Program) (o : Oper) (σ : St) (out : Out) : Prop := ∀ σ', Ext o σ σ' (out.new σ.hp) → OpOk P o σ' out

theorem Yd.ok {P : Program} {o : Oper} {σ : St} {out : Out} (h : Yd P o σ out) : OpOk P o σ out :=
  h σ ⟨rfl, fun _ _ => rfl, fun _ _ h => h, fun id hid => by
    simp only [Out.new, List.mem_filter] at hid
    simpa using hid.2⟩

/-- An operation that yields a value and leaves the world alone. -/
theorem opok_value {P : Program} {o : Oper} {σ : St} {v : AV}
    (h : ∀ C a w, Conc σ C a w → ∃ u, (execOp a.eval o).run P w = .ok (.value u) w ∧ VRep w σ.hp C v u) : OpOk P o σ ⟨v, []⟩ := by
  intro C a w hc
  obtain ⟨u, hr, hv⟩ := h C a w hc
  unfold Oper.wp
  rw [hr, Oper.upon_value]
  exact ⟨C, hc.put o.dst (Ev.refl ..) hv hc.heap, Ev.refl .., Fr.refl ..⟩

theorem wrap_iff (k : IntKind) (n : Int) : k.wrap n = n ↔ k.min ≤ n ∧ n ≤ k.max := by
  cases k <;> simp [IntKind.wrap, IntKind.min, IntKind.max, IntKind.bits, IntKind.signed] <;> (try split) <;> omega
theorem wrap_wrap (k : IntKind) (n : Int) : k.wrap (k.wrap n) = k.wrap n := by
  rw [wrap_iff]
  cases k <;> simp [IntKind.wrap, IntKind.min, IntKind.max, IntKind.bits, IntKind.signed] <;> (try split) <;> omega


/-! ### The table of types -/
inductive TyK where
  | slice (e : TypeId)
  | array (n : Nat) (e : TypeId)
  | struct (fs : List (Nat × TypeId))
  | int (k : IntKind)
  | bool
  | str
  | other
structure TyI where
  sz : Nat
  byt : Nat
  zr : Option (List AV)
  pl : Option (List (Nat × Nat))
  k : TyK
abbrev Ty := TypeId → Option TyI
def tyK : TypeDesc → TyK
  | .slice e => .slice e
  | .array n e => .array n e
  | .struct fs => .struct (fs.toList.map fun g => (g.offset, g.type))
  | .int k => .int k
  | .bool => .bool
  | .string => .str
  | _ => .other
def plP (P : Program) (t : TypeId) : Option (List (Nat × Nat)) := match P.underlying t with
  | some (.struct fs) => fs.toList.mapM fun f => (P.info? f.type).map fun i => (f.offset, i.size)
  | _ => none
def tyI (P : Program) : Ty := fun t => match P.info? t, P.underlying t with
  | some i, some d => some ⟨i.size, i.bytes, i.zero.map (fun v => v.cells.toList.map constAV), plP P t, tyK d⟩
  | _, _ => none
theorem tyI_some {P : Program} {t : TypeId} {i : TyI} (h : tyI P t = some i) : ∃ info d, P.info? t = some info ∧ P.underlying t = some d ∧ i = ⟨info.size, info.bytes, info.zero.map (fun v => v.cells.toList.map constAV), plP P t, tyK d⟩ := by
  unfold tyI at h
  split at h
  · rename_i info d h1 h2
    exact ⟨info, d, h1, h2, (Option.some.inj h).symm⟩
  · simp at h
def boOf (F : Ty) (t : TypeId) : Bool := match F t with | some i => (match i.k with | .bool => true | _ => false) | none => false

theorem boOf_run {P : Program} {t : TypeId} (h : boOf (tyI P) t = true) : P.underlying t = some .bool := by
  unfold boOf at h
  split at h
  · rename_i i hi
    obtain ⟨info, d, h1, h2, rfl⟩ := tyI_some hi
    cases d <;> simp [tyK] at h
    exact h2
  · simp at h
def evBin (F : Ty) (op : BinOp) (xt : TypeId) (x y : AV) : Option AV :=
  match x, y with
  | .int k a, .int k' b =>
    match op with
    | .shl => if b < 0 then none else some (.int k (k.wrap (a * 2 ^ (min b.toNat k.bits))))
    | .shr => if b < 0 then none else if k.wrap (a.fdiv (2 ^ (min b.toNat k.bits))) = a.fdiv (2 ^ (min b.toNat k.bits)) then some (.int k (a.fdiv (2 ^ (min b.toNat k.bits)))) else none
    | op => if k = k' then (match op with
      | .add => some (.int k (k.wrap (a + b)))
      | .sub => some (.int k (k.wrap (a - b)))
      | .mul => some (.int k (k.wrap (a * b)))
      | .quo => if b = 0 then none else some (.int k (k.wrap (a.tdiv b)))
      | .rem => if b = 0 then none else if k.wrap (a.tmod b) = a.tmod b then some (.int k (a.tmod b)) else none
      | .and => some (.int k (k.wrap (BitVec.ofInt k.bits a &&& BitVec.ofInt k.bits b).toNat))
      | .or => some (.int k (k.wrap (BitVec.ofInt k.bits a ||| BitVec.ofInt k.bits b).toNat))
      | .xor => some (.int k (k.wrap (BitVec.ofInt k.bits a ^^^ BitVec.ofInt k.bits b).toNat))
      | .andNot => some (.int k (k.wrap (BitVec.ofInt k.bits a &&& ~~~ BitVec.ofInt k.bits b).toNat))
      | .eql => some (.bool (decide (a = b)))
      | .neq => some (.bool (!decide (a = b)))
      | .lss => some (.bool (decide (a < b)))
      | .leq => some (.bool (decide (a ≤ b)))
      | .gtr => some (.bool (decide (b < a)))
      | .geq => some (.bool (decide (b ≤ a)))
      | _ => none) else none
  | .bool a, .bool b => if boOf F xt = true then (match op with
      | .eql => some (.bool (a == b))
      | .neq => some (.bool (!(a == b)))
      | _ => none) else none
  | .str a, .str b =>
    match op with
    | .add => if a.size + b.size ≤ 9223372036854775807 then some (.str (a ++ b)) else none
    | .eql => some (.bool (a.toList == b.toList))
    | .neq => some (.bool (!(a.toList == b.toList)))
    | .lss => some (.bool (Op.bytesLess a.toList b.toList))
    | .leq => some (.bool (Op.bytesLess a.toList b.toList || a.toList == b.toList))
    | .gtr => some (.bool (!(Op.bytesLess a.toList b.toList || a.toList == b.toList)))
    | .geq => some (.bool (!Op.bytesLess a.toList b.toList))
    | _ => none
  | _, _ => none

set_option maxHeartbeats 1000000 in
theorem evBin_ok {P : Program} {op : BinOp} {xt : TypeId} {x y v : AV} {u1 u2 : Value} {w : World} {hp : Hp} {C : Co} (h : evBin (tyI P) op xt x y = some v)
    (h1 : VRep w hp C x u1) (h2 : VRep w hp C y u2) (xo yo : Operand) :
    ∃ u, (do eqGuard op xt xo yo u1 u2; binOp op xt u1 u2 : Sem Value).run P w = .ok u w ∧ VRep w hp C v u := by
  cases x <;> cases y <;> simp only [evBin, reduceCtorEq] at h
  case int.int k a k' b =>
    simp only [VRep] at h1 h2
    obtain ⟨rfl, ha⟩ := h1
    obtain ⟨rfl, hb⟩ := h2
    have hg : ∀ op, (eqGuard op xt xo yo (.int k a) (.int k' b)).run P w = .ok () w := by
      intro op; cases op <;> simp [eqGuard]
    simp only [Sem.run_bind, hg, Result.andThen_ok]
    cases op <;> simp only [Option.ite_none_left_eq_some, Option.ite_none_right_eq_some, Option.some.injEq, reduceCtorEq, and_false] at h
    case shl =>
      obtain ⟨h0, rfl⟩ := h
      refine ⟨.int k _, ?_, by rw [VRep]; exact ⟨rfl, wrap_wrap ..⟩⟩
      simp [binOp, Op.shift, h0]
    case shr =>
      obtain ⟨h0, h3, rfl⟩ := h
      refine ⟨.int k _, ?_, by rw [VRep]; exact ⟨rfl, h3⟩⟩
      simp [binOp, Op.shift, h0]
    case quo =>
      obtain ⟨rfl, h0, rfl⟩ := h
      refine ⟨.int k _, ?_, by rw [VRep]; exact ⟨rfl, wrap_wrap ..⟩⟩
      simp [binOp, Op.intDiv, h0]
    case rem =>
      obtain ⟨rfl, h0, h3, rfl⟩ := h
      refine ⟨.int k _, ?_, by rw [VRep]; exact ⟨rfl, h3⟩⟩
      simp [binOp, Op.intDiv, h0]
    case eql | neq | lss | leq | gtr | geq =>
      obtain ⟨rfl, rfl⟩ := h
      refine ⟨.bool _, ?_, by rw [VRep]⟩
      first
      | rfl
      | (simp [binOp, Op.intCmp]; done)
      | (simp only [binOp, Op.intCmp, Sem.run_pure, ne_eq, not_true_eq_false, if_false]; rfl)
    all_goals
      obtain ⟨rfl, rfl⟩ := h
      refine ⟨.int k _, ?_, by rw [VRep]; exact ⟨rfl, wrap_wrap ..⟩⟩
      simp [binOp, Op.intArith, Op.intBits]
  case bool.bool a b =>
    simp only [VRep] at h1 h2
    subst h1 h2
    have hg : ∀ op, (eqGuard op xt xo yo (.bool a) (.bool b)).run P w = .ok () w := by
      intro op; cases op <;> simp [eqGuard]
    simp only [Sem.run_bind, hg, Result.andThen_ok]
    split at h
    · rename_i hu
      cases op <;> simp only [Option.some.injEq, reduceCtorEq] at h
      all_goals
        subst h
        refine ⟨.bool _, ?_, by rw [VRep]⟩
        first
        | exact run_eql_bool w xt a b (boOf_run hu)
        | exact run_neq_bool w xt a b (boOf_run hu)
    · simp at h
  case str.str a b =>
    simp only [VRep] at h1 h2
    obtain ⟨rfl, ha⟩ := h1
    obtain ⟨rfl, hb⟩ := h2
    have hg : ∀ op, (eqGuard op xt xo yo (.string a) (.string b)).run P w = .ok () w := by
      intro op; cases op <;> simp [eqGuard]
    simp only [Sem.run_bind, hg, Result.andThen_ok]
    cases op <;> simp only [Option.ite_none_right_eq_some, Option.some.injEq, reduceCtorEq] at h
    case add =>
      obtain ⟨h0, rfl⟩ := h
      have h3 : ¬ ((a.size + b.size : Nat) : Int) > IntKind.i64.max := by
        simp only [IntKind.max, IntKind.bits, IntKind.signed]; simp; omega
      refine ⟨.string (a ++ b), by simp only [binOp, Op.stringOp, h3, if_false, Sem.run_pure], ?_⟩
      rw [VRep]
      exact ⟨rfl, by simp only [ByteArray.size_append, maxLen]; omega⟩
    all_goals
      subst h
      refine ⟨.bool _, ?_, by rw [VRep]⟩
      first
      | rfl
      | (simp [binOp, Op.stringOp]; done)


/-! ### What types tell -/
def szOf (F : Ty) (t : TypeId) : Option Nat := (F t).map (·.sz)
def byOf (F : Ty) (t : TypeId) : Option Nat := (F t).map (·.byt)
def agOf (F : Ty) (t : TypeId) : Option Bool := (F t).map fun i => match i.k with | .struct _ | .array _ _ => true | _ => false
def elOf (F : Ty) (t : TypeId) : Option TypeId := match F t with | some i => (match i.k with | .slice e => some e | _ => none) | none => none
def arOf (F : Ty) (t : TypeId) : Option (Nat × TypeId) := match F t with | some i => (match i.k with | .array n e => some (n, e) | _ => none) | none => none
def fdOf (F : Ty) (t : TypeId) (f : Nat) : Option (Nat × TypeId) := match F t with | some i => (match i.k with | .struct fs => fs[f]? | _ => none) | none => none
def inOf (F : Ty) (t : TypeId) : Option IntKind := match F t with | some i => (match i.k with | .int k => some k | _ => none) | none => none
def stOf (F : Ty) (t : TypeId) : Bool := match F t with | some i => (match i.k with | .str => true | _ => false) | none => false

section
variable {P : Program} {t e : TypeId} {n : Nat} {w : World}
theorem szOf_run (h : szOf (tyI P) t = some n) (w : World) : (sizeOf t).run P w = .ok n w := by
  unfold szOf at h
  obtain ⟨i, hi, rfl⟩ := Option.map_eq_some_iff.1 h
  obtain ⟨info, d, h1, h2, rfl⟩ := tyI_some hi
  simp [sizeOf, typeInfo, h1]
theorem szOf_info (h : szOf (tyI P) t = some n) : (P.info? t).map (·.size) = some n := by
  unfold szOf at h
  obtain ⟨i, hi, rfl⟩ := Option.map_eq_some_iff.1 h
  obtain ⟨info, d, h1, h2, rfl⟩ := tyI_some hi
  simp [h1]
theorem byOf_info (h : byOf (tyI P) t = some n) : (P.info? t).map (·.bytes) = some n := by
  unfold byOf at h
  obtain ⟨i, hi, rfl⟩ := Option.map_eq_some_iff.1 h
  obtain ⟨info, d, h1, h2, rfl⟩ := tyI_some hi
  simp [h1]
theorem agOf_run {b : Bool} (h : agOf (tyI P) t = some b) (w : World) : (isAgg t).run P w = .ok b w := by
  unfold agOf at h
  obtain ⟨i, hi, hb⟩ := Option.map_eq_some_iff.1 h
  obtain ⟨info, d, h1, h2, rfl⟩ := tyI_some hi
  unfold isAgg underlying
  cases d <;> simp [h2, tyK] at hb ⊢ <;> exact hb
theorem elOf_run (h : elOf (tyI P) t = some e) : P.underlying t = some (.slice e) := by
  unfold elOf at h
  split at h
  · rename_i i hi
    obtain ⟨info, d, h1, h2, rfl⟩ := tyI_some hi
    cases d <;> simp [tyK] at h
    subst h; exact h2
  · simp at h
theorem arOf_run (h : arOf (tyI P) t = some (n, e)) : P.underlying t = some (.array n e) := by
  unfold arOf at h
  split at h
  · rename_i i hi
    obtain ⟨info, d, h1, h2, rfl⟩ := tyI_some hi
    cases d <;> simp [tyK] at h
    obtain ⟨rfl, rfl⟩ := h; exact h2
  · simp at h
theorem inOf_run {k : IntKind} (h : inOf (tyI P) t = some k) : P.underlying t = some (.int k) := by
  unfold inOf at h
  split at h
  · rename_i i hi
    obtain ⟨info, d, h1, h2, rfl⟩ := tyI_some hi
    cases d <;> simp [tyK] at h
    subst h; exact h2
  · simp at h
theorem stOf_run (h : stOf (tyI P) t = true) : P.underlying t = some .string := by
  unfold stOf at h
  split at h
  · rename_i i hi
    obtain ⟨info, d, h1, h2, rfl⟩ := tyI_some hi
    cases d <;> simp [tyK] at h
    exact h2
  · simp at h
theorem fdOf_run {f off : Nat} (h : fdOf (tyI P) t f = some (off, e)) : ∃ fs g, P.underlying t = some (.struct fs) ∧ fs[f]? = some g ∧ g.offset = off ∧ g.type = e := by
  unfold fdOf at h
  split at h
  · rename_i i hi
    obtain ⟨info, d, h1, h2, rfl⟩ := tyI_some hi
    cases d <;> simp [tyK] at h
    rename_i fs
    obtain ⟨g, hg, h3, h4⟩ := h
    exact ⟨fs, g, h2, hg, h3, h4⟩
  · simp at h
end

def MD (m : Md) : D → AV
  | .int k n => .int k n
  | .bool b => .bool b
  | .str s => .str s
  | .sl xs => .sl m xs

/-- Is what was lent still there? -/
def live (hp : Hp) : Md → Bool
  | .st => true
  | .inn _ => false
  | .bor id ver => match hp id with
    | some (.row _ ver' _ _) => ver' == ver
    | _ => false

/-- What lies in live memory, told at its footprint. -/
theorem MF.live {w : World} {hp : Hp} {C : Co} {m : Md} {p : (Nat → Prop) → Prop} (h : MF w hp C m p) (hl : live hp m = true) : ∃ F, p F ∧ ∀ q : (Nat → Prop) → Prop, q F → MF w hp C m q := by
  cases m with
  | st => exact ⟨_, h, fun q hq => hq⟩
  | inn e => exact h.elim
  | bor id ver =>
    simp only [Al.live] at hl
    simp only [MF] at h ⊢
    split at hl
    · rename_i x ver' e xs hh
      have : ver' = ver := by simpa using hl
      subst this
      rw [hh] at h
      simp only [hh]
      exact ⟨_, h.2 rfl, fun q hq => ⟨Nat.le_refl _, fun _ => hq⟩⟩
    · simp at hl

theorem MF.sl {w : World} {hp : Hp} {C : Co} {m : Md} {d : D} {v : Value} (h : MF w hp C m fun F => DRep w F d v) (hl : Al.live hp m = true) : VRep w hp C (MD m d) v := by
  cases d with
  | sl xs =>
    obtain ⟨F, hF, _⟩ := MF.live h hl
    simp only [MD, VRep]
    exact ⟨by cases hF; exact ⟨_, _, _, rfl⟩, h⟩
  | _ =>
    obtain ⟨F, hF, _⟩ := MF.live h hl
    cases hF <;> simp [MD, VRep] <;> assumption

theorem add_add (ad : Addr) (i j : Nat) : (ad.add i).add j = ad.add (i + j) := Addr.add_add ad i j

/-! ### Operations without memory -/
def evPure (F : Ty) (σ : St) (o : Oper) : Option AV :=
  match o.op with
  | .move x => some (σ.ev x)
  | .assign x => some (σ.ev x)
  | .pick c a b => match σ.ev c with
    | .bool true => some (σ.ev a)
    | .bool false => some (σ.ev b)
    | _ => none
  | .binOp op xt x y _ => evBin F op xt (σ.ev x) (σ.ev y)
  | .unOp op _ x => match op, σ.ev x with
    | .not, .bool b => some (.bool (!b))
    | .neg, .int k n => some (.int k (k.wrap (0 - n)))
    | _, _ => none
  | .convert src dst x => match σ.ev x with
    | .int _ n => (inOf F dst).bind fun k => if ((inOf F src).isSome = true) then some (.int k (k.wrap n)) else none
    | .str s => if stOf F dst = true ∧ stOf F src = true then some (.str s) else none
    | _ => none
  | .extract x i => match σ.ev x with
    | .tup vs => vs[i]?
    | _ => none
  | .makeFunc (.func g) first caps => if first = #[] then some (.fn g (caps.toList.map σ.ev)) else none
  | .nilCheck x => match σ.ev x with
    | .ptr id off => match σ.hp id with | some (.box _) => some (.ptr id off) | _ => none
    | _ => none
  | .fieldAddr t x f => match fdOf F t f with
    | some (off, ft) => match szOf F ft with
      | some (n + 1) => match σ.ev x with
        | .ptr id o => match σ.hp id with | some (.box _) => some (.ptr id (o + off)) | _ => none
        | .rptr id len i o => match σ.hp id with | some (.row _ _ _ xs) => if xs.length = len then some (.rptr id len i (o + off)) else none | _ => none
        | .iptr m cs => if live σ.hp m = true then some (.iptr m (cs.drop off)) else none
        | _ => none
      | _ => none
    | none => none
  | .field t x f => match fdOf F t f with
    | some (off, ft) => match σ.ev x with
      | .agg cs => match agOf F ft with
        | some true => match szOf F ft with
          | some n => if off + n ≤ cs.length then some (.agg ((cs.drop off).take n)) else none
          | none => none
        | some false => cs[off]?
        | none => none
      | _ => none
    | none => none
  | .index t x i => match σ.ev x, σ.ev i with
    | .str s, .int _ n => if stOf F t = true then (if h : 0 ≤ n ∧ n.toNat < s.size then some (.int .u8 (s[n.toNat]'h.2).toNat) else none) else none
    | _, _ => none
  | _ => none

theorem VReps.map_ev {σ : St} {C : Co} {a : Act} {w : World} (h : Conc σ C a w) (l : List Operand) : VReps w σ.hp C (l.map σ.ev) (l.map a.eval) := by
  induction l with
  | nil => simp [VReps]
  | cons x l ih => simp only [List.map_cons, VReps]; exact ⟨_, _, rfl, h.ev x, ih⟩


theorem VReps.drop {w : World} {hp : Hp} {C : Co} {as : List AV} {vs : List Value} (h : VReps w hp C as vs) (n : Nat) : VReps w hp C (as.drop n) (vs.drop n) :=
  VReps.of (by simp [h.length]) fun i a v h1 h2 => h.at (i := n + i) (by simpa using h1) (by simpa using h2)
theorem VReps.take {w : World} {hp : Hp} {C : Co} {as : List AV} {vs : List Value} (h : VReps w hp C as vs) (n : Nat) : VReps w hp C (as.take n) (vs.take n) :=
  VReps.of (by simp [h.length]) fun i a v h1 h2 => by
    rw [List.getElem?_take] at h1 h2
    split at h1
    · rename_i hl; rw [if_pos hl] at h2; exact h.at h1 h2
    · simp at h1

theorem run_fieldAt {P : Program} {t ft : TypeId} {f off n : Nat} (hf : fdOf (tyI P) t f = some (off, ft)) (hs : szOf (tyI P) ft = some (n + 1)) (a : Addr) (w : World) :
    (Instr.fieldAt t (.pointer (some a)) f).run P w = .ok (.pointer (some (a.add off))) w := by
  obtain ⟨fs, g, h1, h2, rfl, rfl⟩ := fdOf_run hf
  have hs' := szOf_run hs
  simp [Instr.fieldAt, underlying, h1, h2, Instr.sureAddr, fieldPlace, hs']

set_option maxHeartbeats 1000000 in
theorem evPure_ok {P : Program} {σ : St} {o : Oper} {v : AV} (h : evPure (tyI P) σ o = some v) : OpOk P o σ ⟨v, []⟩ := by
  refine opok_value fun C a w hc => ?_
  obtain ⟨dst, op, type, pos, after, guard⟩ := o
  unfold execOp
  cases op <;> simp only [evPure, reduceCtorEq] at h
  case move x =>
    obtain rfl := Option.some.inj h
    exact ⟨_, rfl, hc.ev x⟩
  case assign x =>
    obtain rfl := Option.some.inj h
    exact ⟨_, rfl, hc.ev x⟩
  case pick c x y =>
    have h1 := hc.ev c
    split at h
    · rename_i h2
      obtain rfl := Option.some.inj h
      rw [h2] at h1; simp only [VRep] at h1
      exact ⟨_, by simp [h1, asBool], hc.ev x⟩
    · rename_i h2
      obtain rfl := Option.some.inj h
      rw [h2] at h1; simp only [VRep] at h1
      exact ⟨_, by simp [h1, asBool], hc.ev y⟩
    · simp at h
  case binOp op xt x y yt =>
    obtain ⟨u, h1, h2⟩ := evBin_ok h (hc.ev x) (hc.ev y) x y
    refine ⟨u, ?_, h2⟩
    simp only [Sem.run_bind] at h1 ⊢
    rw [h1]; rfl
  case unOp op xt x =>
    have h1 := hc.ev x
    split at h
    · rename_i b h2
      obtain rfl := Option.some.inj h
      rw [h2] at h1; simp only [VRep] at h1
      exact ⟨.bool (!b), by simp [h1, Op.unary], by rw [VRep]⟩
    · rename_i k n h2
      obtain rfl := Option.some.inj h
      rw [h2] at h1; simp only [VRep] at h1
      exact ⟨.int k (k.wrap (0 - n)), by simp [h1.1, Op.unary, Op.intArith], by rw [VRep]; exact ⟨rfl, wrap_wrap ..⟩⟩
    · simp at h
  case convert src dst x =>
    have h1 := hc.ev x
    split at h
    · rename_i k' n h2
      obtain ⟨k, hk, h3⟩ := Option.bind_eq_some_iff.1 h
      rw [h2] at h1; simp only [VRep] at h1
      simp only [Option.ite_none_right_eq_some, Option.some.injEq] at h3
      obtain ⟨h4, rfl⟩ := h3
      obtain ⟨ks, hks⟩ := Option.isSome_iff_exists.1 h4
      refine ⟨.int k (k.wrap n), ?_, by rw [VRep]; exact ⟨rfl, wrap_wrap ..⟩⟩
      simp [h1.1, convert, underlying, inOf_run hk, inOf_run hks, Conv.intToInt]
    · rename_i s h2
      rw [h2] at h1; simp only [VRep] at h1
      simp only [Option.ite_none_right_eq_some, Option.some.injEq] at h
      obtain ⟨⟨h3, h4⟩, rfl⟩ := h
      refine ⟨.string s, ?_, by rw [VRep]; exact ⟨rfl, h1.2⟩⟩
      simp [h1.1, convert, underlying, stOf_run h3, stOf_run h4]
    · simp at h
  case extract x i =>
    have h1 := hc.ev x
    split at h
    · rename_i vs h2
      rw [h2] at h1; simp only [VRep] at h1
      obtain ⟨us, h3, h4⟩ := h1
      have hi : i < vs.length := (List.getElem?_eq_some_iff.1 h).1
      have hl := h4.length
      have hu : us.toList[i]? = some us.toList[i] := List.getElem?_eq_getElem (by omega)
      refine ⟨us.toList[i], ?_, h4.at h hu⟩
      have hu' : us[i]? = some us.toList[i] := by simp
      simp [h3, Instr.extract, hu']
    · simp at h
  case makeFunc fn first caps =>
    cases fn <;> simp only [reduceCtorEq] at h
    simp only [Option.ite_none_right_eq_some, Option.some.injEq] at h
    obtain ⟨rfl, rfl⟩ := h
    refine ⟨_, by simp [Instr.makeFunc]; rfl, ?_⟩
    simp only [VRep]
    exact ⟨_, rfl, by simpa using VReps.map_ev hc caps.toList⟩
  case nilCheck x =>
    have h1 := hc.ev x
    split at h
    · rename_i id off h2
      rw [h2] at h1
      split at h
      · rename_i cells h3
        obtain rfl := Option.some.inj h
        have h1' := h1
        simp only [VRep, h3] at h1
        obtain ⟨_, b, _, h4⟩ := h1
        exact ⟨a.eval x, by simp [h4], h1'⟩
      · simp at h
    · simp at h
  case fieldAddr t x f =>
    have h1 := hc.ev x
    split at h
    · rename_i off ft hf
      split at h
      · rename_i n hs
        split at h
        · rename_i id o h2
          rw [h2] at h1
          split at h
          · rename_i cells h3
            obtain rfl := Option.some.inj h
            simp only [VRep, h3] at h1 ⊢
            obtain ⟨_, b, h4, h5⟩ := h1
            refine ⟨.pointer (some ⟨b, o + off, none⟩), ?_, ⟨_, rfl⟩, b, h4, rfl⟩
            simp only [h5, Sem.run_bind, run_fieldAt hf hs, Result.andThen_ok, Addr.add_lit]; rfl
          · simp at h
        · rename_i id len i o h2
          rw [h2] at h1
          split at h
          · rename_i x ver e xs h3
            simp only [Option.ite_none_right_eq_some, Option.some.injEq] at h
            obtain ⟨h6, rfl⟩ := h
            simp only [VRep, h3] at h1 ⊢
            obtain ⟨b, h4, h5⟩ := h1.2.2 h6
            refine ⟨.pointer (some ⟨b, i * e + o + off, none⟩), ?_, ⟨_, rfl⟩, h1.2.1, fun _ => ⟨b, h4, by rw [Nat.add_assoc]⟩⟩
            simp only [h5, Sem.run_bind, run_fieldAt hf hs, Result.andThen_ok, Addr.add_lit]; rfl
          · simp at h
        · rename_i m cs h2
          rw [h2] at h1
          simp only [Option.ite_none_right_eq_some, Option.some.injEq] at h
          obtain ⟨h6, rfl⟩ := h
          simp only [VRep] at h1 ⊢
          obtain ⟨F, ⟨ad, h4, h5⟩, h7⟩ := MF.live h1.2 h6
          refine ⟨.pointer (some (ad.add off)), ?_, ⟨_, rfl⟩, h7 _ ⟨_, rfl, fun j d hd => ?_⟩⟩
          · simp only [h4, Sem.run_bind, run_fieldAt hf hs, Result.andThen_ok]; rfl
          · obtain ⟨u, h8, h9, h10⟩ := h5 (off + j) d (by simpa using hd)
            refine ⟨u, by rw [add_add]; exact h8, h9, ?_⟩
            have : (ad.add off).block = ad.block := by unfold Addr.add; split <;> rfl
            rw [this]; exact h10
        · simp at h
      · simp at h
    · simp at h
  case field t x f =>
    have h1 := hc.ev x
    split at h
    · rename_i off ft hf
      obtain ⟨fs, g, hu, hg, rfl, rfl⟩ := fdOf_run hf
      split at h
      · rename_i cs h2
        rw [h2] at h1; simp only [VRep] at h1
        obtain ⟨vs, h3, h4⟩ := h1
        have hl := h4.length
        split at h
        · rename_i ha
          split at h
          · rename_i n hs
            simp only [Option.ite_none_right_eq_some, Option.some.injEq] at h
            obtain ⟨h6, rfl⟩ := h
            refine ⟨.agg (vs.extract g.offset (g.offset + n)), ?_, ?_⟩
            · simp [h3, Instr.field, underlying, hu, hg, asAgg, part, agOf_run ha, szOf_run hs]
            · simp only [VRep]
              refine ⟨_, rfl, ?_⟩
              have := (h4.drop g.offset).take n
              simpa [List.take_drop] using this
          · simp at h
        · rename_i ha
          have hi : g.offset < cs.length := (List.getElem?_eq_some_iff.1 h).1
          have hu1 : vs.toList[g.offset]? = some vs.toList[g.offset] := List.getElem?_eq_getElem (by omega)
          refine ⟨vs.toList[g.offset], ?_, h4.at h hu1⟩
          have hu' : vs[g.offset]? = some vs.toList[g.offset] := by simp
          simp [h3, Instr.field, underlying, hu, hg, asAgg, part, agOf_run ha, hu']
        · simp at h
      · simp at h
    · simp at h
  case index t x i =>
    have h1 := hc.ev x
    have h1' := hc.ev i
    split at h
    · rename_i s k n h2 h2'
      rw [h2] at h1; simp only [VRep] at h1
      rw [h2'] at h1'; simp only [VRep] at h1'
      simp only [Option.ite_none_right_eq_some] at h
      obtain ⟨hs, h⟩ := h
      split at h
      · rename_i hb
        obtain rfl := Option.some.inj h
        have hget : s[n.toNat]? = some (s[n.toNat]'hb.2) := by simp [hb.2]
        refine ⟨.int .u8 (s[n.toNat]'hb.2).toNat, ?_, ?_⟩
        · simp [h1.1, h1'.1, Instr.index, asIntOf, underlying, stOf_run hs, hb.1, hget]
        · rw [VRep]
          refine ⟨rfl, ?_⟩
          rw [wrap_iff]
          have := (s[n.toNat]'hb.2).toNat_lt
          simp [IntKind.min, IntKind.max, IntKind.bits, IntKind.signed]
          omega
      · simp at h
    · simp at h

end Go.Al
