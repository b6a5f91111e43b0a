/- The abstract logic, part 15: what a statement hands, as plain data. -/
import Derived.Test.YtjdmlcpngddgaaaAlDrawGo
import Derived.DataReads
import Derived.Carry
import Derived.ChangeSame
import Derived.ChangeOld
set_option linter.unusedVariables false
set_option linter.unusedSimpArgs false
namespace Go.Al
open Go Go.RowKit

inductive Typed (P : Program) : TypeId → List D → Prop
  | int {t : TypeId} {k : IntKind} {n : Int} (h : P.underlying t = some (.int k)) (hn : k.wrap n = n) : Typed P t [.int k n]
  | bool {t : TypeId} {b : Bool} (h : P.underlying t = some .bool) : Typed P t [.bool b]
  | str {t : TypeId} {s : ByteArray} (h : P.underlying t = some .string) (hs : s.size ≤ maxLen) : Typed P t [.str s]
  | sl {t e : TypeId} {xs : List (List D)} (h : P.underlying t = some (.slice e)) (hl : xs.length ≤ maxLen) (hx : ∀ cs ∈ xs, Typed P e cs) : Typed P t [.sl xs]
  | struct {t : TypeId} {fs : Array Field} {dss : List (List D)} (h : P.underlying t = some (.struct fs)) (hl : dss.length = fs.size) (hd : ∀ (i : Nat) (f : Field) (ds : List D), fs[i]? = some f → dss[i]? = some ds → Typed P f.type ds) : Typed P t dss.flatten

def contig (P : Program) : Nat → List Field → Nat → Bool
  | off, [], n => Nat.beq off n
  | off, f :: fs, n => Nat.beq f.offset off && contig P (off + P.cellsOf f.type) fs n
def goodT (P : Program) (tys : List TypeId) : Bool := tys.all fun t => match P.underlying t with
  | some (.int _) | some .bool | some .string => Nat.beq (P.cellsOf t) 1
  | some (.slice e) => Nat.beq (P.cellsOf t) 1 && tys.contains e && Nat.blt 0 (P.cellsOf e)
  | some (.struct fs) => fs.toList.all (fun f => tys.contains f.type) && contig P 0 fs.toList (P.cellsOf t)
  | _ => false

def Old (w : World) (b : Nat) : Prop := b < w.heap.size

theorem wf_wrap_eq {k : IntKind} {n : Int} (h : (Lit.int k n).wf = true) : k.wrap n = n := by
  simp only [Lit.wf, Bool.and_eq_true, decide_eq_true_eq] at h
  exact (wrap_iff k n).2 h

section
variable {H : Type} {enc : TypeId × Value → H} {P : Program} {w : World} {base : Nat} {spare : Nat → Bool} {held : Bool}

theorem read_fields {cs : List Value} {g : Field → Option (DataW H × List MemPlace)}
    (ih : ∀ (f : Field) y, g f = some y → ∃ ds, Typed P f.type ds ∧ ds.length = P.cellsOf f.type ∧ ∀ (j : Nat) (d : D) (u : Value), ds[j]? = some d → ((cs.drop f.offset).take (P.cellsOf f.type))[j]? = some u → DRep w (Old w) d u) :
    ∀ (fs : List Field) (off n : Nat), contig P off fs n = true → (∀ f ∈ fs, ∃ y, g f = some y) → ∃ dss : List (List D), dss.length = fs.length ∧ (∀ (i : Nat) (f : Field) (ds : List D), fs[i]? = some f → dss[i]? = some ds → Typed P f.type ds) ∧
      off + dss.flatten.length = n ∧ ∀ (j : Nat) (d : D) (u : Value), dss.flatten[j]? = some d → cs[off + j]? = some u → DRep w (Old w) d u
  | [], off, n, hc, _ => ⟨[], rfl, by simp, by simp [Nat.eq_of_beq_eq_true hc], by simp⟩
  | f :: fs, off, n, hc, hg => by
    simp only [contig, Bool.and_eq_true] at hc
    have ho := Nat.eq_of_beq_eq_true hc.1
    obtain ⟨y, hy⟩ := hg f (by simp)
    obtain ⟨ds, h1, h2, h3⟩ := ih f y hy
    obtain ⟨dss, k1, k2, k3, k4⟩ := read_fields ih fs _ n hc.2 fun f' hf => hg f' (by simp [hf])
    refine ⟨ds :: dss, by simp [k1], fun i f' ds' hi hd => ?_, by simp only [List.flatten_cons, List.length_append]; omega, fun j d u hd hu => ?_⟩
    · cases i with
      | zero => simp at hi hd; subst hi hd; exact h1
      | succ i => exact k2 i f' ds' (by simpa using hi) (by simpa using hd)
    · simp only [List.flatten_cons] at hd
      by_cases hj : j < ds.length
      · rw [List.getElem?_append_left hj] at hd
        refine h3 j d u hd ?_
        rw [List.getElem?_take, if_pos (by omega), List.getElem?_drop, ho]; exact hu
      · rw [List.getElem?_append_right (by omega)] at hd
        refine k4 (j - ds.length) d u hd ?_
        rw [← hu]; congr 1; omega

theorem choose_list {α : Type} {R : Nat → α → Prop} : ∀ (n : Nat), (∀ i, i < n → ∃ x, R i x) → ∃ l : List α, l.length = n ∧ ∀ (i : Nat) (x : α), l[i]? = some x → R i x
  | 0, _ => ⟨[], rfl, by simp⟩
  | n + 1, h => by
    obtain ⟨l, h1, h2⟩ := choose_list n fun i hi => h i (by omega)
    obtain ⟨x, hx⟩ := h n (by omega)
    refine ⟨l ++ [x], by simp [h1], fun i y hy => ?_⟩
    by_cases hi : i < l.length
    · rw [List.getElem?_append_left hi] at hy; exact h2 i y hy
    · rw [List.getElem?_append_right (by omega)] at hy
      have : i - l.length = 0 := by have := (List.getElem?_eq_some_iff.1 hy).1; simp at this; omega
      rw [this] at hy; simp at hy; subst hy
      have : i = n := by omega
      rw [this]; exact hx

theorem read_ok {tys : List TypeId} (hg : goodT P tys = true) : ∀ (fuel : Nat) (t : TypeId) (cs : List Value) (y : DataW H × List MemPlace), t ∈ tys → DataW.trod enc P w base spare held fuel t cs = some y →
    ∃ ds, Typed P t ds ∧ ds.length = P.cellsOf t ∧ cs.length = P.cellsOf t ∧ ∀ (j : Nat) (d : D) (u : Value), ds[j]? = some d → cs[j]? = some u → DRep w (Old w) d u
  | 0, t, cs, y, _, h => by simp [DataW.trod] at h
  | fuel + 1, t, cs, y, ht, h => by
    have hgt := List.all_eq_true.1 hg t ht
    have one : ∀ (d : D) (u : Value), DRep w (Old w) d u → ∀ (j : Nat) (d' : D) (u' : Value), [d][j]? = some d' → [u][j]? = some u' → DRep w (Old w) d' u' := fun d u hr j d' u' h1 h2 => by
      cases j with
      | zero => simp at h1 h2; subst h1 h2; exact hr
      | succ j => simp at h1
    unfold DataW.trod at h
    cases hu : P.underlying t with
    | none => rw [hu] at hgt; simp at hgt
    | some td =>
      rw [hu] at hgt
      simp only [hu] at h
      cases td <;> simp only [Bool.false_eq_true] at hgt
      case bool =>
        have h1 := Nat.eq_of_beq_eq_true hgt
        split at h <;> simp_all
        rename_i b
        exact ⟨[.bool b], .bool hu, by simp [h1], one _ _ .bool⟩
      case string =>
        have h1 := Nat.eq_of_beq_eq_true hgt
        split at h <;> simp_all
        rename_i s
        exact ⟨[.str s], .str hu h.1, by simp [h1], one _ _ (.str h.1)⟩
      case int k =>
        have h1 := Nat.eq_of_beq_eq_true hgt
        split at h <;> simp_all
        rename_i k' n heq
        obtain ⟨⟨rfl, h2⟩, _⟩ := h
        exact ⟨[.int k' n], .int hu (wf_wrap_eq h2), by simp [h1], one _ _ (.int (wf_wrap_eq h2))⟩
      case slice e =>
        simp only [Bool.and_eq_true] at hgt
        obtain ⟨⟨g1, g2⟩, g3⟩ := hgt
        have g1 := Nat.eq_of_beq_eq_true g1
        have g3 : 0 < P.cellsOf e := Nat.le_of_ble_eq_true g3
        split at h
        · simp_all
        · simp_all
        · simp_all
        · simp_all
        · simp_all
        · simp_all
        · refine ⟨[.sl []], .sl hu (by simp) (by simp), by simp [g1], by simp [g1], one _ _ (.sl (e := 1) [] (by simp) (by simp) (by simp) rfl (by simp) (by simp))⟩
        · rename_i e' a len cap hd
          simp at hd; subst hd
          simp only [Option.ite_none_right_eq_some] at h
          obtain ⟨⟨_, hlc, hcm⟩, h⟩ := h
          obtain ⟨elems, h3, _⟩ := Option.bind_eq_some_iff.1 h
          have hl := mapM_some_length h3
          have hget := mapM_some_get h3
          simp only [List.length_range] at hl
          obtain ⟨L, hL1, hL2⟩ := choose_list (R := fun i (x : List D × List Value) => w.cells? base (a.add (i * P.cellsOf e)) (P.cellsOf e) = some x.2 ∧ Typed P e x.1 ∧ x.1.length = P.cellsOf e ∧ x.2.length = P.cellsOf e ∧
              ∀ (j : Nat) (d : D) (u : Value), x.1[j]? = some d → x.2[j]? = some u → DRep w (Old w) d u) len fun i hi => by
            have := hget i i (by rw [List.getElem?_range hi])
            rw [List.getElem?_eq_getElem (by omega)] at this
            obtain ⟨cells, h4, h5⟩ := Option.bind_eq_some_iff.1 this
            obtain ⟨ds, a1, a2, a3, a4⟩ := read_ok hg fuel e cells _ (by simpa using g2) h5
            exact ⟨(ds, cells), h4, a1, a2, a3, a4⟩
          have hxe : ∀ cs ∈ L.map (·.1), cs.length = P.cellsOf e := fun cs hcs => by
            obtain ⟨x, hx, rfl⟩ := List.mem_map.1 hcs
            obtain ⟨i, hi⟩ := List.getElem?_of_mem hx
            exact (hL2 i x hi).2.2.1
          have hve : ∀ cs ∈ L.map (·.2), cs.length = P.cellsOf e := fun cs hcs => by
            obtain ⟨x, hx, rfl⟩ := List.mem_map.1 hcs
            obtain ⟨i, hi⟩ := List.getElem?_of_mem hx
            exact (hL2 i x hi).2.2.2.1
          have hxf := length_flatten hxe
          have hvf := length_flatten hve
          simp only [List.length_map, hL1] at hxf hvf
          have part : ∀ j, j < len * P.cellsOf e → ∃ i r x, j = i * P.cellsOf e + r ∧ r < P.cellsOf e ∧ L[i]? = some x ∧ (L.map (·.1)).flatten[j]? = x.1[r]? ∧ (L.map (·.2)).flatten[j]? = x.2[r]? := fun j hj => by
            have hq : j / P.cellsOf e < len := Nat.div_lt_of_lt_mul (by rw [Nat.mul_comm]; exact hj)
            have hr : j % P.cellsOf e < P.cellsOf e := Nat.mod_lt _ g3
            have hjq : j = (j / P.cellsOf e) * P.cellsOf e + j % P.cellsOf e := by rw [Nat.mul_comm]; exact (Nat.div_add_mod j _).symm
            have hx : L[j / P.cellsOf e]? = some (L[j / P.cellsOf e]'(by omega)) := List.getElem?_eq_getElem (by omega)
            refine ⟨_, _, _, hjq, hr, hx, ?_, ?_⟩
            · conv => lhs; rw [hjq]
              exact flatten_at hxe (by rw [List.getElem?_map, hx]; rfl) hr
            · conv => lhs; rw [hjq]
              exact flatten_at hve (by rw [List.getElem?_map, hx]; rfl) hr
          have hll : (L.map (·.1)).length = len := by simp [hL1]
          refine ⟨[.sl (L.map (·.1))], .sl hu (by omega) (fun cs hcs => ?_), by simp [g1], by simp [g1], one _ _ ?_⟩
          · obtain ⟨x, hx, rfl⟩ := List.mem_map.1 hcs
            obtain ⟨i, hi⟩ := List.getElem?_of_mem hx
            exact (hL2 i x hi).2.1
          · have := DRep.sl (w := w) (F := Old w) (A := some a) (c := cap) (L.map (·.2)).flatten hxe (by omega) hcm (by rw [hxf, hvf]) (fun j d u h1 h2 => by
              have hj : j < len * P.cellsOf e := by have := (List.getElem?_eq_some_iff.1 h1).1; omega
              obtain ⟨i, r, x, rfl, hr, hx, e1, e2⟩ := part j hj
              rw [e1] at h1; rw [e2] at h2
              exact (hL2 i x hx).2.2.2.2 r d u h1 h2) (fun hne => ⟨a, rfl, by
              have hpos : 0 < len * P.cellsOf e := by
                have : 0 < ((L.map (·.2)).flatten).length := List.length_pos_iff.2 hne
                omega
              obtain ⟨i, r, x, _, hr, hx, _, _⟩ := part 0 hpos
              have := World.cells?_block (hL2 i x hx).1 g3
              have e0 : (a.add (i * P.cellsOf e)).block = a.block := by unfold Addr.add; split <;> rfl
              rw [e0] at this
              exact this, fun j u hu' => by
              have hj : j < len * P.cellsOf e := by have := (List.getElem?_eq_some_iff.1 hu').1; omega
              obtain ⟨i, r, x, rfl, hr, hx, _, e2⟩ := part j hj
              rw [e2] at hu'
              have := (World.cells?_some (hL2 i x hx).1).2.2 r hr
              rw [Addr.add_add] at this
              rw [this]; exact hu'⟩)
            rw [hll] at this
            exact this
        all_goals simp_all
      case struct fs =>
        simp only [Bool.and_eq_true] at hgt
        obtain ⟨g1, g2⟩ := hgt
        simp only [Option.ite_none_right_eq_some] at h
        obtain ⟨h1, h2⟩ := h
        obtain ⟨xs, h3, _⟩ := Option.map_eq_some_iff.1 h2
        have hl := mapM_some_length h3
        have hget := mapM_some_get h3
        obtain ⟨dss, k1, k2, k3, k4⟩ := read_fields (P := P) (w := w) (cs := cs) (g := fun f => if tys.contains f.type = true then DataW.trod enc P w base spare held fuel f.type ((cs.drop f.offset).take (P.cellsOf f.type)) else none) (fun f y hy => by
          split at hy
          · rename_i hm
            obtain ⟨ds, a1, a2, a3, a4⟩ := read_ok hg fuel f.type _ y (by simpa using hm) hy
            exact ⟨ds, a1, a2, a4⟩
          · simp at hy) fs.toList 0 (P.cellsOf t) g2 (fun f hf => by
            have hm := List.all_eq_true.1 g1 f hf
            rw [if_pos hm]
            obtain ⟨i, hi⟩ := List.getElem?_of_mem hf
            have := hget i f hi
            rw [this]
            exact ⟨_, List.getElem?_eq_getElem (by have := (List.getElem?_eq_some_iff.1 hi).1; omega)⟩)
        refine ⟨dss.flatten, .struct hu (by simpa using k1) (fun i f ds hi hd => k2 i f ds (by simpa using hi) hd), by omega, h1, fun j d u hd hu' => k4 j d u hd (by rw [Nat.zero_add]; exact hu')⟩
end

end Go.Al
