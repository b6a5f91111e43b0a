/- The abstract logic, part 3: operations on memory. -/
import Derived.Test.YtjdmlcpngddgaaaAlOps
import Derived.Laws.CopyRow
import Derived.Laws.Tables
import Derived.Great.FillDense
import Derived.Great.BuildSlice
set_option linter.unusedVariables false
set_option linter.unusedSimpArgs false
namespace Go.Al
open Go Go.RowKit

def av1 : AV → Bool
  | .any | .und | .agg _ | .tup _ => false
  | _ => true

/-- A value as cells. -/
def avCells : AV → Option (List AV)
  | .agg cs => if cs.all av1 = true then some cs else none
  | a => if av1 a = true then some [a] else none

theorem av1_one {w : World} {hp : Hp} {C : Co} {a : AV} {v : Value} (h : VRep w hp C a v) (h1 : av1 a = true) : v.oneCell' = true ∧ v.cells = #[v] := by
  cases a <;> simp [av1] at h1 <;> simp only [VRep] at h
  case int => obtain ⟨rfl, _⟩ := h; exact ⟨rfl, rfl⟩
  case bool => subst h; exact ⟨rfl, rfl⟩
  case str => obtain ⟨rfl, _⟩ := h; exact ⟨rfl, rfl⟩
  case sl => obtain ⟨⟨A, n, c, rfl⟩, _⟩ := h; exact ⟨rfl, rfl⟩
  case row => obtain ⟨⟨A, n, c, rfl⟩, _⟩ := h; exact ⟨rfl, rfl⟩
  case ptr => obtain ⟨⟨q, rfl⟩, _⟩ := h; exact ⟨rfl, rfl⟩
  case rptr => obtain ⟨⟨q, rfl⟩, _⟩ := h; exact ⟨rfl, rfl⟩
  case cel => obtain ⟨⟨A, n, c, rfl⟩, _⟩ := h; exact ⟨rfl, rfl⟩
  case iptr => obtain ⟨⟨q, rfl⟩, _⟩ := h; exact ⟨rfl, rfl⟩
  case fn => obtain ⟨vs, rfl, _⟩ := h; exact ⟨rfl, rfl⟩
  case nil => subst h; exact ⟨rfl, rfl⟩
  case nilp => subst h; exact ⟨rfl, rfl⟩

theorem avCells_rep {w : World} {hp : Hp} {C : Co} {a : AV} {v : Value} {cs : List AV} (h : VRep w hp C a v) (h1 : avCells a = some cs) :
    VReps w hp C cs v.cells.toList ∧ ∀ u ∈ v.cells.toList, u.oneCell' = true := by
  by_cases ha : ∃ l, a = .agg l
  · obtain ⟨l, rfl⟩ := ha
    simp only [avCells, Option.ite_none_right_eq_some, Option.some.injEq] at h1
    obtain ⟨h2, rfl⟩ := h1
    simp only [VRep] at h
    obtain ⟨vs, rfl, h3⟩ := h
    refine ⟨h3, fun u hu => ?_⟩
    obtain ⟨i, hi⟩ := List.getElem?_of_mem hu
    have hl := h3.length
    have hil : i < vs.toList.length := (List.getElem?_eq_some_iff.1 hi).1
    have hl' : i < l.length := by simp only [Value.cells] at hil hi; omega
    have hli : l[i]? = some l[i] := List.getElem?_eq_getElem hl'
    exact (av1_one (h3.at hli hi) (List.all_eq_true.1 h2 _ (List.getElem_mem hl'))).1
  · have h2 : av1 a = true ∧ cs = [a] := by
      cases a <;> simp [avCells, av1] at h1 ⊢ <;> first | exact h1.symm | exact absurd ⟨_, rfl⟩ ha
    obtain ⟨h2, rfl⟩ := h2
    obtain ⟨h3, h4⟩ := av1_one h h2
    rw [h4]
    exact ⟨⟨v, [], rfl, h, rfl⟩, fun u hu => by simp at hu; subst hu; exact h3⟩

/-- A new block. -/
theorem new_conc {w w' : World} {hp : Hp} {C : Co} (H : HConc w hp C) (hb : Below w.heap.size w w') (hfz : ∀ a, w'.frozen? a = w.frozen? a) {N : Nat} (hN : hp N = none) (blk : Blk) (cb : CB)
    (hS : ∀ b ∈ cb.S, w.heap.size ≤ b) (hnd : cb.S.Nodup) :
    Ev w hp C w' (upd hp N (some blk)) (C.set N cb) ∧ Fr w hp C w' (upd hp N (some blk)) (C.set N cb) ∧
      (BRep w' (upd hp N (some blk)) (C.set N cb) N blk → HConc w' (upd hp N (some blk)) (C.set N cb)) := by
  obtain ⟨h1, h2, h3⟩ := turn_conc (w' := w') (hp' := upd hp N (some blk)) (C' := C.set N cb) (fun id => id = N) H rfl hb.os hb.tape hb.output hb.size hfz
    (fun b hlt _ => hb.block b hlt) (fun id hT => ⟨upd_ne _ _ hT, Co.set_ne _ _ hT⟩) (fun id b hT hi => by subst hT; rw [hN] at hi; cases hi)
    (fun id hT _ b hbS => by subst hT; rw [Co.set_same] at hbS; exact .inl (hS b hbS)) (fun id hT _ => by subst hT; rw [Co.set_same]; exact hnd)
    (fun i j hij hi hj => absurd (hi.trans hj.symm) hij)
  exact ⟨h1, h2, fun hr => h3 fun id b hT hi => by subst hT; rw [upd_same] at hi; obtain rfl := Option.some.inj hi; exact hr⟩

theorem below_alloc1 (w : World) (o : Obj) : Below w.heap.size w (w.alloc o) := (Below.refl _ _).alloc (Nat.le_refl _) o

/-- A variable is laid. -/
theorem opok_newbox {P : Program} {o : Oper} {σ : St} {N : Nat} {cells : List AV} (hN : σ.hp N = none)
    (h : ∀ C a w, Conc σ C a w → ∃ arr te, (execOp a.eval o).run P w = .ok (.value (.pointer (some ⟨w.heap.size, 0, none⟩))) (w.alloc (.cells arr te)) ∧ VReps w σ.hp C cells arr.toList) :
    OpOk P o σ ⟨.ptr N 0, [(N, .box cells)]⟩ := by
  intro C a w hc
  obtain ⟨arr, te, hr, hv⟩ := h C a w hc
  unfold Oper.wp
  rw [hr, Oper.upon_value]
  obtain ⟨h1, h2, h3⟩ := new_conc hc.heap (below_alloc1 w (.cells arr te)) (frozen_alloc w arr te) hN (.box cells) ⟨.pointer (some ⟨w.heap.size, 0, none⟩), [w.heap.size]⟩ (by simp) (by simp)
  refine ⟨_, hc.put o.dst h1 ?_ (h3 ?_), h1, h2⟩
  · simp only [VRep, writes, List.foldl_cons, List.foldl_nil, upd_same, Co.set_same]
    exact ⟨⟨_, rfl⟩, w.heap.size, rfl, rfl⟩
  · simp only [BRep, Co.set_same]
    exact ⟨w.heap.size, arr, te, rfl, rfl, heap_alloc_new w _, VReps.ev h1 hv⟩

def zrOf (F : Ty) (t : TypeId) : Option (List AV) := (F t).bind (·.zr)
def plOf (F : Ty) (t : TypeId) : Option (List (Nat × Nat)) := (F t).bind (·.pl)
theorem zrOf_some {P : Program} {t : TypeId} {cells : List AV} (h : zrOf (tyI P) t = some cells) : ∃ i z, P.info? t = some i ∧ i.zero = some z ∧ cells = z.cells.toList.map constAV := by
  unfold zrOf at h
  obtain ⟨i, hi, h⟩ := Option.bind_eq_some_iff.1 h
  obtain ⟨info, d, h1, h2, rfl⟩ := tyI_some hi
  obtain ⟨z, hz, rfl⟩ := Option.map_eq_some_iff.1 h
  exact ⟨info, z, h1, hz, rfl⟩
theorem plOf_some {P : Program} {t : TypeId} {pl : List (Nat × Nat)} (h : plOf (tyI P) t = some pl) : plP P t = some pl := by
  unfold plOf at h
  obtain ⟨i, hi, h⟩ := Option.bind_eq_some_iff.1 h
  obtain ⟨info, d, h1, h2, rfl⟩ := tyI_some hi
  exact h

theorem VReps.consts (w : World) (hp : Hp) (C : Co) (l : List Value) : VReps w hp C (l.map constAV) l := by
  induction l with
  | nil => simp [VReps]
  | cons v l ih => exact ⟨v, l, rfl, constAV_rep .., ih⟩

theorem zrOf_run {P : Program} {t : TypeId} {cells : List AV} (h : zrOf (tyI P) t = some cells) (w : World) : ∃ z, (zeroValue t).run P w = .ok z w ∧ cells = z.cells.toList.map constAV := by
  obtain ⟨i, z, hi, hz, rfl⟩ := zrOf_some h
  exact ⟨z, by simp [zeroValue, typeInfo, hi, hz], rfl⟩

theorem ok_alloc {P : Program} {o : Oper} {σ : St} {N : Nat} {t : TypeId} {cells : List AV} (ho : o.op = .alloc t) (h : zrOf (tyI P) t = some cells) (hN : σ.hp N = none) :
    OpOk P o σ ⟨.ptr N 0, [(N, .box cells)]⟩ := by
  refine opok_newbox hN fun C a w hc => ?_
  obtain ⟨z, hz, rfl⟩ := zrOf_run h w
  refine ⟨z.cells, t, ?_, VReps.consts ..⟩
  simp [execOp, ho, Instr.alloc, hz, newVar, newRow]

theorem ok_box {P : Program} {o : Oper} {σ : St} {N : Nat} {t : TypeId} {x : Operand} {cells : List AV} (ho : o.op = .box t x) (h : avCells (σ.ev x) = some cells) (hN : σ.hp N = none) :
    OpOk P o σ ⟨.ptr N 0, [(N, .box cells)]⟩ := by
  refine opok_newbox hN fun C a w hc => ?_
  refine ⟨(a.eval x).cells, t, ?_, (avCells_rep (hc.ev x) h).1⟩
  simp [execOp, ho, Instr.box, newVar, newRow]

/-! ### Loads -/
def evLoad (F : Ty) (hp : Hp) (t : TypeId) (a : AV) : Option AV :=
  match agOf F t, szOf F t with
  | some ag, some n =>
    let got (l : List AV) : Option AV := if ag = true then (if n ≤ l.length then some (.agg (l.take n)) else none) else l[0]?
    match a with
    | .ptr id off => match hp id with
      | some (.box cells) => got (cells.drop off)
      | _ => none
    | .rptr id len i off => match hp id with
      | some (.row x ver _ xs) => if xs.length = len then (match xs[i]? with
        | some cs => got ((cs.drop off).map (MD (if x = true then .bor id ver else .st)))
        | none => none) else none
      | _ => none
    | .iptr m cs => if live hp m = true then got (cs.map (MD m)) else none
    | _ => none
  | _, _ => none

theorem run_loadVar_list {P : Program} {w : World} {t : TypeId} {ag : Bool} {n : Nat} (ha : agOf (tyI P) t = some ag) (hs : szOf (tyI P) t = some n) {ad : Addr} {vs : List Value}
    (hv : ∀ (j : Nat) (u : Value), vs[j]? = some u → w.cell? (ad.add j) = some u) :
    (ag = true → n ≤ vs.length → (loadVar t ad).run P w = .ok (.agg (vs.take n).toArray) w) ∧ (ag = false → ∀ u, vs[0]? = some u → (loadVar t ad).run P w = .ok u w) := by
  constructor
  · rintro rfl hn
    have h1 := run_loadCells_list (P := P) (w := w) ad (vs.take n) (fun j u hu => hv j u (by
      rw [List.getElem?_take] at hu
      split at hu
      · exact hu
      · simp at hu))
    have hl : (vs.take n).length = n := by simp; omega
    rw [hl] at h1
    simp [loadVar, agOf_run ha, szOf_run hs, h1]
  · rintro rfl u hu
    have h1 := hv 0 u hu
    have h2 : ad.add 0 = ad := by simp [Addr.add]
    rw [h2] at h1
    simp [loadVar, agOf_run ha, h1]

/-- What is read where abstract cells stand for a run of real ones. -/
theorem load_got {P : Program} {w : World} {hp : Hp} {C : Co} {t : TypeId} {ag : Bool} {n : Nat} (ha : agOf (tyI P) t = some ag) (hs : szOf (tyI P) t = some n) {ad : Addr} {vs : List Value} {l : List AV} {v : AV}
    (hv : ∀ (j : Nat) (u : Value), vs[j]? = some u → w.cell? (ad.add j) = some u) (hl : VReps w hp C l vs)
    (h : (if ag = true then (if n ≤ l.length then some (.agg (l.take n)) else none) else l[0]?) = some v) :
    ∃ u, (loadVar t ad).run P w = .ok u w ∧ VRep w hp C v u := by
  obtain ⟨h1, h2⟩ := run_loadVar_list ha hs hv
  have hlen := hl.length
  cases ag with
  | true =>
    simp only [if_true, Option.ite_none_right_eq_some, Option.some.injEq] at h
    obtain ⟨h3, rfl⟩ := h
    refine ⟨_, h1 rfl (by omega), ?_⟩
    simp only [VRep]
    exact ⟨_, rfl, by simpa using hl.take n⟩
  | false =>
    simp only [Bool.false_eq_true, if_false] at h
    have h0 : 0 < l.length := (List.getElem?_eq_some_iff.1 h).1
    have hu : vs[0]? = some (vs[0]'(by omega)) := List.getElem?_eq_getElem (by omega)
    exact ⟨_, h2 rfl _ hu, hl.at h hu⟩

theorem cell_row {w : World} {b off j : Nat} {arr : Array Value} {te : TypeId} {fr : Nat × Nat} {u : Value} (hh : w.heap[b]? = some (.cells arr te fr)) (hu : (arr.toList.drop off)[j]? = some u) :
    w.cell? ((⟨b, off, none⟩ : Addr).add j) = some u := by
  rw [Addr.add_lit, cell_of_row w b (off + j) arr te fr hh]
  simpa using hu

theorem PRep.vals {w : World} {F : Nat → Prop} {cs : List D} {ad : Addr} (h : PRep w F cs ad) : ∃ vs : List Value, vs.length = cs.length ∧ (∀ (j : Nat) (u : Value), vs[j]? = some u → w.cell? (ad.add j) = some u) ∧
    ∀ (j : Nat) (d : D) (u : Value), cs[j]? = some d → vs[j]? = some u → DRep w F d u := by
  induction cs generalizing ad with
  | nil => exact ⟨[], rfl, by simp, by simp⟩
  | cons d cs ih =>
    obtain ⟨u, h1, h2, h3⟩ := h 0 d rfl
    obtain ⟨vs, h4, h5, h6⟩ := ih (ad := ad.add 1) fun j d hd => by
      obtain ⟨u, a1, a2, a3⟩ := h (j + 1) d (by simpa using hd)
      refine ⟨u, by rw [add_add, Nat.add_comm]; exact a1, a2, ?_⟩
      have : (ad.add 1).block = ad.block := by simp [Addr.add]
      rw [this]; exact a3
    refine ⟨u :: vs, by simp [h4], fun j x hx => ?_, fun j d' x hd hx => ?_⟩
    · cases j with
      | zero => simp at hx; subst hx; exact h1
      | succ j => have := h5 j x (by simpa using hx); rw [add_add, Nat.add_comm] at this; exact this
    · cases j with
      | zero => simp at hd hx; subst hd; subst hx; exact h2
      | succ j => exact h6 j d' x (by simpa using hd) (by simpa using hx)

/-- The element of an owned row: its real cells. -/
theorem row_elem {w : World} {hp : Hp} {C : Co} {id : Nat} {x : Bool} {ver e : Nat} {xs : List (List D)} (hb : BRep w hp C id (.row x ver e xs)) (hi : hp id = some (.row x ver e xs)) {i : Nat} {cs : List D} (hx : xs[i]? = some cs) :
    ∃ b, (C id).v.ownBlock = some b ∧ ∃ vs : List Value, vs.length = cs.length ∧ (∀ (j : Nat) (u : Value), vs[j]? = some u → w.cell? ⟨b, i * e + j, none⟩ = some u) ∧
      VReps w hp C (cs.map (MD (if x = true then .bor id ver else .st))) vs := by
  have key : ∀ (te : TypeId) (vals : List Value), (∀ cs ∈ xs, cs.length = e) → w.ownsRow 0 te e (C id).v xs.length vals →
      (∀ (j : Nat) (d : D) (u : Value), xs.flatten[j]? = some d → vals[j]? = some u → VRep w hp C (MD (if x = true then .bor id ver else .st) d) u) →
      ∃ b, (C id).v.ownBlock = some b ∧ ∃ vs : List Value, vs.length = cs.length ∧ (∀ (j : Nat) (u : Value), vs[j]? = some u → w.cell? ⟨b, i * e + j, none⟩ = some u) ∧
        VReps w hp C (cs.map (MD (if x = true then .bor id ver else .st))) vs := by
    intro te vals he own hrep
    have hil : i < xs.length := (List.getElem?_eq_some_iff.1 hx).1
    have hce : cs.length = e := he cs (List.mem_of_getElem? hx)
    have hvl := own.1
    have hfl := length_flatten he
    have hlt : i * e + e ≤ vals.length := by
      rw [hvl]
      have : (i + 1) * e ≤ xs.length * e := Nat.mul_le_mul_right _ hil
      rw [Nat.add_mul] at this; omega
    rcases own.2 with ⟨_, hn⟩ | ⟨g, cap, cur, hv, _⟩
    · omega
    · refine ⟨g, by rw [hv]; rfl, (vals.drop (i * e)).take e, by simp; omega, fun j u hu => ?_, VReps.of (by simp; omega) fun j a u ha hu => ?_⟩
      · rw [List.getElem?_take] at hu
        split at hu
        · have := own.cells (g := g) (by rw [hv]; rfl) (i * e + j) u (by simpa using hu)
          rw [Addr.add_lit, Nat.zero_add] at this; exact this
        · simp at hu
      · rw [List.getElem?_take] at hu
        split at hu
        · rename_i hj
          rw [List.getElem?_map] at ha
          obtain ⟨d, hd, rfl⟩ := Option.map_eq_some_iff.1 ha
          exact hrep (i * e + j) d u (by rw [flatten_at he hx hj]; exact hd) (by simpa using hu)
        · simp at hu
  simp only [BRep] at hb
  split at hb
  · rename_i hxt
    subst hxt
    obtain ⟨he, h0, te, vals, Ss, own, hs, hS, hr⟩ := hb
    refine key te vals he own fun j d u hd hu => MF.sl ?_ (by simp [live, hi])
    simp only [if_true, MF, hi]
    refine ⟨Nat.le_refl _, fun _ => ?_⟩
    have hjl : j < vals.length := (List.getElem?_eq_some_iff.1 hu).1
    have hSj : Ss[j]? = some (Ss[j]'(by omega)) := List.getElem?_eq_getElem (by omega)
    refine (hr j d u _ hd hu hSj).read.mono fun b hb => ⟨.inl ?_, rfl⟩
    rw [hS]
    exact List.mem_append_right _ (List.mem_flatten.2 ⟨_, List.mem_of_getElem? hSj, hb⟩)
  · rename_i hxf
    obtain ⟨he, h0, h3, te, vals, own, hr⟩ := hb
    have hxf' : x = false := by simpa using hxf
    subst hxf'
    exact key te vals he own fun j d u hd hu => MF.sl (hr j d u hd hu) rfl


theorem load_run {P : Program} {σ : St} {t : TypeId} {x : Operand} {v : AV} (h : evLoad (tyI P) σ.hp t (σ.ev x) = some v) {C : Co} {a : Act} {w : World} (hc : Conc σ C a w) :
    ∃ ad u, a.eval x = .pointer (some ad) ∧ (loadVar t ad).run P w = .ok u w ∧ VRep w σ.hp C v u := by
  have hx := hc.ev x
  have key : ∀ (ad : Addr), a.eval x = .pointer (some ad) → (∃ u, (loadVar t ad).run P w = .ok u w ∧ VRep w σ.hp C v u) → ∃ ad u, a.eval x = .pointer (some ad) ∧ (loadVar t ad).run P w = .ok u w ∧ VRep w σ.hp C v u := by
    rintro ad hp ⟨u, h1, h2⟩
    exact ⟨ad, u, hp, h1, h2⟩
  unfold evLoad at h
  split at h
  · rename_i ag n ha hs
    simp only at h
    split at h
    · rename_i id off he
      rw [he] at hx
      split at h
      · rename_i cells hi
        simp only [VRep, hi] at hx
        obtain ⟨_, b, hb, hv⟩ := hx
        have hr := hc.heap.rep id _ hi
        obtain ⟨b', arr, te, hv', hS, hh, hcells⟩ := hr
        rw [hv'] at hb
        have hbb : b' = b := by simpa using hb
        subst hbb
        refine key _ hv (load_got ha hs (vs := arr.toList.drop off) (fun j u hu => cell_row hh hu) (hcells.drop off) h)
      · simp at h
    · rename_i id len i off he
      rw [he] at hx
      split at h
      · rename_i xx ver e xs hi
        simp only [VRep, hi] at hx
        simp only [Option.ite_none_right_eq_some] at h
        obtain ⟨hlen, h⟩ := h
        split at h
        · rename_i cs hcs
          obtain ⟨_, _, hx⟩ := hx
          obtain ⟨b, hb, hv⟩ := hx hlen
          obtain ⟨b', hb', vs, hvl, hvc, hvr⟩ := row_elem (hc.heap.rep id _ hi) hi hcs
          rw [hb] at hb'
          obtain rfl := Option.some.inj hb'
          refine key _ hv (load_got ha hs (vs := vs.drop off) (fun j u hu => ?_) (by rw [List.map_drop]; exact hvr.drop off) h)
          rw [Addr.add_lit, Nat.add_assoc]
          exact hvc (off + j) u (by simpa using hu)
        · simp at h
      · simp at h
    · rename_i m cs he
      rw [he] at hx
      simp only [Option.ite_none_right_eq_some] at h
      obtain ⟨hl, h⟩ := h
      simp only [VRep] at hx
      obtain ⟨F, ⟨ad, hv, hp⟩, hF⟩ := MF.live hx.2 hl
      obtain ⟨vs, h1, h2, h3⟩ := hp.vals
      refine key _ hv (load_got ha hs (vs := vs) h2 (VReps.of (by simp [h1]) fun j a u hja hju => ?_) h)
      rw [List.getElem?_map] at hja
      obtain ⟨d, hd, rfl⟩ := Option.map_eq_some_iff.1 hja
      exact MF.sl (hF _ (h3 j d u hd hju)) hl
    · simp at h
  · simp at h

theorem ok_load {P : Program} {o : Oper} {σ : St} {t : TypeId} {x : Operand} {v : AV} (ho : o.op = .load t x) (h : evLoad (tyI P) σ.hp t (σ.ev x) = some v) : OpOk P o σ ⟨v, []⟩ := by
  refine opok_value fun C a w hc => ?_
  obtain ⟨ad, u, hp, h1, h2⟩ := load_run h hc
  refine ⟨u, ?_, h2⟩
  simp [execOp, ho, hp, Instr.loadAt, Instr.sureAddr, h1]

/-! ### Addresses of elements -/
def evIndexAddr (F : Ty) (hp : Hp) (t : TypeId) (x i : AV) : Option AV :=
  match i with
  | .int _ n => if 0 ≤ n then (match x with
    | .sl m xs => if live hp m = true then (match xs[n.toNat]? with
      | some cs => (match (elOf F t).bind (szOf F) with
        | some e => if cs.length = e ∧ 0 < e then some (.iptr m cs) else none
        | none => none)
      | none => none) else none
    | .row id len => match hp id with
      | some (.row _ _ e xs) => if xs.length = len ∧ n.toNat < len ∧ (elOf F t).bind (szOf F) = some e then some (.rptr id len n.toNat 0) else none
      | _ => none
    | .ptr id off => match arOf F t with
      | some (len, et) => (match szOf F et, hp id with
        | some e, some (.box _) => if n < len then some (.ptr id (off + n.toNat * e)) else none
        | _, _ => none)
      | none => none
    | _ => none) else none
  | _ => none

theorem ok_indexAddr {P : Program} {o : Oper} {σ : St} {t : TypeId} {x i : Operand} {v : AV} (ho : o.op = .indexAddr t x i) (h : evIndexAddr (tyI P) σ.hp t (σ.ev x) (σ.ev i) = some v) : OpOk P o σ ⟨v, []⟩ := by
  refine opok_value fun C a w hc => ?_
  have hx := hc.ev x
  have hi := hc.ev i
  unfold evIndexAddr at h
  split at h
  · rename_i k n hie
    rw [hie] at hi; simp only [VRep] at hi
    simp only [Option.ite_none_right_eq_some] at h
    obtain ⟨h0, h⟩ := h
    have hslice : ∀ (et : TypeId) (e : Nat) (ad : Addr) (len cap : Nat), elOf (tyI P) t = some et → szOf (tyI P) et = some e → a.eval x = .slice (some ad) len cap → n.toNat < len →
        (execOp a.eval o).run P w = .ok (.value (.pointer (some (ad.add (n.toNat * e))))) w := by
      intro et e ad len cap h1 h2 h3 h4
      have h5 : n < (len : Int) := by omega
      simp [execOp, ho, h3, hi.1, Instr.indexAt, asIntOf, underlying, elOf_run h1, h0, h5, szOf_run h2]
    split at h
    · rename_i m xs hxe
      rw [hxe] at hx
      simp only [VRep] at hx
      simp only [Option.ite_none_right_eq_some] at h
      obtain ⟨hl, h⟩ := h
      split at h
      · rename_i cs hcs
        split at h
        · rename_i e he
          simp only [Option.ite_none_right_eq_some, Option.some.injEq] at h
          obtain ⟨⟨hce, he00⟩, rfl⟩ := h
          obtain ⟨et, h1, h2⟩ := Option.bind_eq_some_iff.1 he
          obtain ⟨F, hd, hF⟩ := MF.live hx.2 hl
          have hlt : n.toNat < xs.length := (List.getElem?_eq_some_iff.1 hcs).1
          generalize hev : a.eval x = V at hd
          cases hd with
          | @sl e0 _ A c vals he0 hc0 hm hvl hr ha =>
            have hee : e0 = e := by rw [← hce]; exact (he0 cs (List.mem_of_getElem? hcs)).symm
            subst hee
            have hfl := length_flatten he0
            have hge : ∀ j, j < e0 → n.toNat * e0 + j < vals.length := by
              intro j hj
              rw [hvl, hfl]
              have : (n.toNat + 1) * e0 ≤ xs.length * e0 := Nat.mul_le_mul_right _ hlt
              rw [Nat.add_mul] at this; omega
            have hv0 : vals ≠ [] := fun hh => by have := hge 0 he00; rw [hh] at this; simp at this
            obtain ⟨ad, rfl, hfa, hcell⟩ := ha hv0
            refine ⟨_, hslice et e0 ad _ _ h1 h2 hev hlt, ?_⟩
            simp only [VRep]
            refine ⟨⟨_, rfl⟩, hF _ ⟨_, rfl, fun j d hd => ?_⟩⟩
            have hj : j < e0 := by have := (List.getElem?_eq_some_iff.1 hd).1; omega
            have hu : vals[n.toNat * e0 + j]? = some (vals[n.toNat * e0 + j]'(hge j hj)) := List.getElem?_eq_getElem (hge j hj)
            refine ⟨_, by rw [add_add]; exact hcell _ _ hu, hr _ _ _ (by rw [flatten_at he0 hcs hj]; exact hd) hu, ?_⟩
            have : (ad.add (n.toNat * e0)).block = ad.block := by unfold Addr.add; split <;> rfl
            rw [this]; exact hfa
        · simp at h
      · simp at h
    · rename_i id len hxe
      rw [hxe] at hx
      split at h
      · rename_i xx ver e xs hid
        simp only [Option.ite_none_right_eq_some, Option.some.injEq] at h
        obtain ⟨⟨h3, h4, h5⟩, rfl⟩ := h
        obtain ⟨et, h1, h2⟩ := Option.bind_eq_some_iff.1 h5
        simp only [VRep, hid] at hx ⊢
        have hv := hx.2.2 h3
        have hown : ∃ b cap, (C id).v = .slice (some ⟨b, 0, none⟩) xs.length cap := by
          have hb := hc.heap.rep id _ hid
          have : ∃ te vals, w.ownsRow 0 te e (C id).v xs.length vals := by
            simp only [BRep] at hb
            split at hb
            · obtain ⟨_, _, te, vals, Ss, own, _⟩ := hb; exact ⟨te, vals, own⟩
            · obtain ⟨_, _, _, te, vals, own, _⟩ := hb; exact ⟨te, vals, own⟩
          obtain ⟨te, vals, own⟩ := this
          rcases own.2 with ⟨_, hn⟩ | ⟨g, cap, cur, hv, _⟩
          · omega
          · exact ⟨g, cap, hv⟩
        obtain ⟨b, cap, hb⟩ := hown
        rw [hb] at hv
        refine ⟨_, hslice et e _ _ _ h1 h2 hv (by omega), ⟨_, rfl⟩, hx.2.1, fun _ => ⟨b, by rw [hb]; rfl, ?_⟩⟩
        simp [Addr.add_lit]
      · simp at h
    · rename_i id off hxe
      rw [hxe] at hx
      split at h
      · rename_i len et ha
        split at h
        · rename_i e cells he hid
          simp only [Option.ite_none_right_eq_some, Option.some.injEq] at h
          obtain ⟨h4, rfl⟩ := h
          simp only [VRep, hid] at hx ⊢
          obtain ⟨_, b, hb, hv⟩ := hx
          refine ⟨.pointer (some ⟨b, off + n.toNat * e, none⟩), ?_, ⟨_, rfl⟩, b, hb, rfl⟩
          simp [execOp, ho, hv, hi.1, Instr.indexAt, asIntOf, underlying, arOf_run ha, Instr.sureAddr, h0, h4, szOf_run he, Addr.add_lit]
        · simp at h
      · simp at h
    · simp at h
  · simp at h


/-! ### Structs by value -/
def splice {α : Type} (l : List α) (off : Nat) (cs : List α) : List α := l.take off ++ cs ++ l.drop (off + cs.length)

def fillA (place : Nat → Option (Nat × Nat)) (cells : List AV) : List (Nat × AV) → Option (List AV)
  | [] => some cells
  | (i, x) :: rest => match place i, avCells x with
    | some (off, size), some cs => if cs.length = size ∧ off + size ≤ cells.length then fillA place (splice cells off cs) rest else none
    | _, _ => none

theorem splice_rep {w : World} {hp : Hp} {C : Co} {l cs : List AV} {vs us : List Value} (h1 : VReps w hp C l vs) (h2 : VReps w hp C cs us) (off : Nat) : VReps w hp C (splice l off cs) (splice vs off us) := by
  unfold splice
  rw [h2.length]
  exact ((h1.take off).append h2).append (h1.drop _)

theorem foldl_set (off : Nat) : ∀ (cs : List Value) (k : Nat) (arr : Array Value), off + k + cs.length ≤ arr.size →
    ((cs.zipIdx k).foldl (fun (acc : Array Value) (p : Value × Nat) => acc.setIfInBounds (off + p.2) p.1) arr).toList = splice arr.toList (off + k) cs
  | [], k, arr, h => by simp [splice]
  | c :: cs, k, arr, h => by
    simp only [List.length_cons] at h
    rw [List.zipIdx_cons, List.foldl_cons, foldl_set off cs (k + 1) _ (by simp; omega)]
    simp only [splice, Array.toList_setIfInBounds]
    have hl : off + k < arr.toList.length := by simp; omega
    rw [List.take_set, List.drop_set_of_lt (by omega)]
    have e1 : (List.take (off + (k + 1)) arr.toList).set (off + k) c = List.take (off + k) arr.toList ++ [c] := by
      rw [← Nat.add_assoc, List.take_succ_eq_append_getElem hl, List.set_append_right _ _ (by simp; omega)]
      have hm : min (off + k) arr.size = off + k := Nat.min_eq_left (by omega)
      simp [hm]
    rw [e1]
    simp [Nat.add_assoc, Nat.add_comm 1]

theorem fillA_rep {w : World} {hp : Hp} {C : Co} {place : Nat → Option (Nat × Nat)} : ∀ (parts : List (Nat × AV)) (vals : List (Nat × Value)) (cells cs : List AV) (arr : Array Value),
    vals.length = parts.length → (∀ (j : Nat) (p : Nat × AV) (q : Nat × Value), parts[j]? = some p → vals[j]? = some q → p.1 = q.1 ∧ VRep w hp C p.2 q.2) →
    VReps w hp C cells arr.toList → fillA place cells parts = some cs → ∃ out, Instr.fill place arr vals = some out ∧ VReps w hp C cs out.toList
  | [], vals, cells, cs, arr, hl, _, hc, h => by
    obtain rfl : vals = [] := List.eq_nil_of_length_eq_zero hl
    simp only [fillA, Option.some.injEq] at h
    subst h
    exact ⟨arr, rfl, hc⟩
  | (i, x) :: rest, [], cells, cs, arr, hl, _, hc, h => by simp at hl
  | (i, x) :: rest, (i', v) :: vals, cells, cs, arr, hl, hp', hc, h => by
    obtain ⟨h1, h2⟩ := hp' 0 _ _ rfl rfl
    simp only at h1 h2
    subst h1
    simp only [fillA] at h
    split at h
    · rename_i off size l hpl hav
      simp only [Option.ite_none_right_eq_some] at h
      obtain ⟨⟨h3, h4⟩, h5⟩ := h
      have hr := (avCells_rep h2 hav).1
      have hrl := hr.length
      have hcl := hc.length
      have hsz : v.cells.size = size := by rw [← h3, hrl]; simp
      have hle : ¬ (off + v.cells.size > arr.size) := by simp at hcl; omega
      have hf := foldl_set off v.cells.toList 0 arr (by simp; omega)
      obtain ⟨out, ho, hv⟩ := fillA_rep rest vals _ cs (v.cells.zipIdx.foldl (fun cs (c, j) => cs.setIfInBounds (off + j) c) arr) (by simpa using hl)
        (fun j p q hj hq => hp' (j + 1) p q (by simpa using hj) (by simpa using hq)) (by
          have e : (v.cells.zipIdx.foldl (fun cs (c, j) => cs.setIfInBounds (off + j) c) arr).toList = splice arr.toList (off + 0) v.cells.toList := by
            rw [← hf, ← Array.foldl_toList, Array.toList_zipIdx]
          rw [e]; exact splice_rep hc hr off) h5
      refine ⟨out, ?_, hv⟩
      simp only [Instr.fill, hpl]
      rw [if_neg (by simp only [Bool.or_eq_true, decide_eq_true_eq]; rintro (h | h) <;> omega)]
      exact ho
    · simp at h

theorem ok_build {P : Program} {o : Oper} {σ : St} {t : TypeId} {parts : Array (Nat × Operand)} {z cs : List AV} {pl : List (Nat × Nat)} (ho : o.op = .build t parts) (hz : zrOf (tyI P) t = some z) (hp : plOf (tyI P) t = some pl)
    (h : fillA (fun i => pl[i]?) z (parts.toList.map fun p => (p.1, σ.ev p.2)) = some cs) : OpOk P o σ ⟨.agg cs, []⟩ := by
  refine opok_value fun C a w hc => ?_
  obtain ⟨it, zv, hit, hzv, rfl⟩ := zrOf_some hz
  replace hp := plOf_some hp
  obtain ⟨out, h1, h2⟩ := fillA_rep (w := w) (hp := σ.hp) (C := C) _ (parts.toList.map fun p => (p.1, a.eval p.2)) _ cs zv.cells (by simp) (fun j p q hp hq => by
    rw [List.getElem?_map] at hp hq
    obtain ⟨r, hr, rfl⟩ := Option.map_eq_some_iff.1 hp
    rw [hr] at hq
    simp at hq
    subst hq
    exact ⟨rfl, hc.ev _⟩) (VReps.consts ..) h
  refine ⟨.agg out, ?_, by simp only [VRep]; exact ⟨_, rfl, h2⟩⟩
  have hb : P.built t (parts.map fun p => (p.1, a.eval p.2)).toList = some out := by
    unfold plP at hp
    unfold Program.built
    split at hp
    · rename_i fs hu
      simp only [hit, hu, hzv, hp]
      simpa using h1
    · simp at hp
  have := run_build (P := P) w t (parts.map fun p => (p.1, a.eval p.2)) out hb
  simp only [execOp, ho, Sem.run_bind, this, Result.andThen_ok]; rfl

/-! ### Stores -/
def evStoreBox (F : Ty) (hp : Hp) (t : TypeId) (a y : AV) : Option (Nat × List AV) :=
  match a with
  | .ptr id off => match hp id, avCells y, szOf F t with
    | some (.box cells), some cs, some n => if cs.length = n ∧ off + n ≤ cells.length then some (id, splice cells off cs) else none
    | _, _, _ => none
  | _ => none

theorem run_storeVar {P : Program} {t : TypeId} {n : Nat} (hs : szOf (tyI P) t = some n) {w : World} {b off : Nat} {arr : Array Value} {te : TypeId} (hh : w.heap[b]? = some (.cells arr te (0, 0))) {v : Value}
    (hn : v.cells.size = n) (hle : off + n ≤ arr.size) (h1 : ∀ u ∈ v.cells.toList, u.oneCell' = true) :
    (storeVar t ⟨b, off, none⟩ v).run P w = .ok () (w.setRow b (splice arr.toList off v.cells.toList).toArray) := by
  have := run_storeCells_at P b off te v.cells.toList 0 arr w hh (by simp; omega) h1
  simp only [Nat.add_zero] at this
  simp [storeVar, szOf_run hs, hn, this, splice]

theorem ok_storeBox {P : Program} {o : Oper} {σ : St} {t : TypeId} {x y : Operand} {id : Nat} {cells : List AV} (ho : o.op = .store t x y) (h : evStoreBox (tyI P) σ.hp t (σ.ev x) (σ.ev y) = some (id, cells)) :
    OpOk P o σ ⟨.any, [(id, .box cells)]⟩ := by
  intro C a w hc
  have hx := hc.ev x
  have hy := hc.ev y
  unfold evStoreBox at h
  split at h
  · rename_i id' off he
    split at h
    · rename_i cells0 cs n hi hav hs
      simp only [Option.ite_none_right_eq_some, Option.some.injEq, Prod.mk.injEq] at h
      obtain ⟨⟨h1, h2⟩, rfl, rfl⟩ := h
      rw [he] at hx
      simp only [VRep, hi] at hx
      obtain ⟨_, b, hb, hv⟩ := hx
      obtain ⟨b', arr, te, hv', hS, hh, hcells⟩ := hc.heap.rep id' _ hi
      rw [hv'] at hb
      have hbb : b' = b := by simpa using hb
      subst hbb
      obtain ⟨hr, hone⟩ := avCells_rep hy hav
      have hrl := hr.length
      have hcl := hcells.length
      have hrun : (execOp a.eval o).run P w = .ok .skip (w.setRow b' (splice arr.toList off (a.eval y).cells.toList).toArray) := by
        have := run_storeVar (P := P) hs hh (off := off) (v := a.eval y) (by simp at hrl; omega) (by simp at hcl; omega) hone
        simp [execOp, ho, hv, Instr.storeAt, Instr.sureAddr, this]
      unfold Oper.wp
      rw [hrun, Oper.upon_skip]
      have hlt : b' < w.heap.size := (Array.getElem?_eq_some_iff.1 hh).1
      obtain ⟨e1, e2, e3⟩ := turn_conc (w' := w.setRow b' (splice arr.toList off (a.eval y).cells.toList).toArray) (hp' := upd σ.hp id' (some (.box (splice cells0 off cs)))) (C' := C) (fun i => i = id') hc.heap rfl rfl rfl rfl (by simp) (frozen_setRow w _ _)
        (fun k _ hk => setRow_other w b' k _ (fun e => hk id' rfl (by simp [hi]) (by rw [hS]; simp [e]))) (fun i hT => ⟨upd_ne _ _ hT, rfl⟩)
        (fun i blk hT hii => ⟨.box (splice cells0 off cs), by subst hT; rw [upd_same], by subst hT; rw [hi] at hii; obtain rfl := Option.some.inj hii; rfl⟩)
        (fun i hT _ k hk => .inr ⟨id', rfl, by simp [hi], by subst hT; exact hk⟩) (fun i hT _ => by subst hT; exact hc.heap.nodup i (by simp [hi]))
        (fun i j hij hTi hTj => absurd (hTi.trans hTj.symm) hij)
      refine ⟨C, hc.put o.dst e1 (by simp [VRep]) (e3 fun i blk hT hii => ?_), e1, e2⟩
      subst hT
      rw [upd_same] at hii
      obtain rfl := Option.some.inj hii
      exact ⟨b', _, te, hv', hS, setRow_heap w b' arr _ te _ hh, by simpa using splice_rep (VReps.ev e1 hcells) (VReps.ev e1 hr) off⟩
    · simp at h
  · simp at h

end Go.Al
