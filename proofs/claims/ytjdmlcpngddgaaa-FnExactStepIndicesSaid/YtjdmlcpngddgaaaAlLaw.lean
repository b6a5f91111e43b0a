/- The abstract logic, part 16: from a law's contract to its statement. -/
import Derived.Test.YtjdmlcpngddgaaaAlRead
import Derived.ProofKit
import Derived.OpenShut
set_option linter.unusedVariables false
set_option linter.unusedSimpArgs false
namespace Go.Al
open Go Go.RowKit Go.ChangeShapes Go.WideShapes Go.ChangeAt

def C0 : Co := ⟨fun _ => ⟨.bool false, []⟩, fun _ => True⟩
theorem hconc0 (W : World) : HConc W (hpL []) C0 := ⟨fun _ _ => trivial, fun _ h => absurd rfl h, fun id blk h => by simp [hpL] at h, fun _ h => absurd rfl h, fun i j _ h => absurd rfl h⟩
theorem stab0 {W : World} {b : Nat} (h : Old W b) : Stab (hpL []) C0 W b := ⟨h, trivial, fun _ h => absurd rfl h⟩

theorem law_calls {P : Program} {f : FuncId} {pargs : List AV} {vs : List Value} {W : World} (h : ACall P 0 f pargs (hpL []) (.bool true) (hpL [])) (hv : VReps W (hpL []) C0 pargs vs) :
    Calls P f vs.toArray W fun e W' => e = .returned (.bool true) ∧ Below W.heap.size W W' ∧ ∀ a, W'.frozen? a = W.frozen? a := by
  refine Calls.mono (h.2 C0 W vs (hconc0 W) hv) ?_
  rintro e W' ⟨v, Cq, S, rfl, _, _, _, hg, hR⟩
  have hv : v = .bool true := by
    simp only [R2, R1, RR, VRep] at hR
    exact hR.1
  exact ⟨by rw [hv], ⟨hg.fr.os, hg.fr.tape, hg.fr.output, hg.fr.size, fun b hb => hg.fr.block b hb fun ⟨i, hi, _⟩ => hi rfl⟩, hg.fr.frz⟩

theorem keptBut_below {W W' : World} (h : Below W.heap.size W W') (may : MemPlace → Prop) : W.keptBut W' may := by
  refine ⟨h.os, h.output, fun i hi => ?_⟩
  rw [h.block i hi]
  cases hh : W.heap[i]? with
  | none => trivial
  | some o => cases o <;> simp

def arg1 : List D → AV
  | [d] => MD .st d
  | _ => .any
def argAV (P : Program) (t : TypeId) (ds : List D) : AV := match P.underlying t with
  | some (.struct _) => .agg (ds.map (MD .st))
  | _ => arg1 ds
def argAVs (P : Program) : List TypeId → List (List D) → List AV
  | t :: ts, ds :: dss => argAV P t ds :: argAVs P ts dss
  | _, _ => []
def TypedAll (P : Program) : List TypeId → List (List D) → Prop
  | [], [] => True
  | t :: ts, ds :: dss => Typed P t ds ∧ TypedAll P ts dss
  | _, _ => False

theorem md_rep {W : World} {d : D} {u : Value} (h : DRep W (Old W) d u) : VRep W (hpL []) C0 (MD .st d) u :=
  MF.sl (m := .st) (h.mono fun b hb => ⟨stab0 hb, rfl⟩) rfl

theorem arg_rep {P : Program} {W : World} {base : Nat} {t : TypeId} {v : Value} {ds : List D} {tys : List TypeId} (hg : goodT P tys = true) (ht : t ∈ tys) (hok : Value.okWide P W .any base t v) (hty : Typed P t ds) (hl : ds.length = P.cellsOf t) (hl' : v.cells.toList.length = P.cellsOf t)
    (hr : ∀ (j : Nat) (d : D) (u : Value), ds[j]? = some d → v.cells.toList[j]? = some u → DRep W (Old W) d u) : VRep W (hpL []) C0 (argAV P t ds) v := by
  have hgt := List.all_eq_true.1 hg t ht
  have one : (¬ ∃ cs, v = .agg cs) → P.cellsOf t = 1 → VRep W (hpL []) C0 (arg1 ds) v := fun hna h1 => by
    rw [h1] at hl
    obtain ⟨d, rfl⟩ := List.length_eq_one_iff.1 hl
    have hc : v.cells.toList = [v] := by cases v <;> first | rfl | exact absurd ⟨_, rfl⟩ hna
    exact md_rep (hr 0 d v rfl (by rw [hc]; rfl))
  unfold Value.okWide at hok
  unfold argAV
  cases hu : P.underlying t with
  | none => rw [hu] at hgt; simp at hgt
  | some td =>
    rw [hu] at hgt hok
    cases td <;> simp only [Bool.false_eq_true] at hgt
    case struct fs =>
      try simp only at hok ⊢
      obtain ⟨cs, rfl, _, _⟩ := hok
      simp only [VRep]
      refine ⟨cs, rfl, VReps.of (by simp only [List.length_map]; simp only [Value.cells] at hl'; omega) fun i a u ha hu' => ?_⟩
      rw [List.getElem?_map] at ha
      obtain ⟨d, hd, rfl⟩ := Option.map_eq_some_iff.1 ha
      exact md_rep (hr i d u hd hu')
    case slice e =>
      simp only [Bool.and_eq_true] at hgt
      refine one (fun ⟨cs, h⟩ => ?_) (Nat.eq_of_beq_eq_true hgt.1.1)
      subst h; simp [Cell.okWide, hu, Cell.ok] at hok
    case int k =>
      refine one (fun ⟨cs, h⟩ => ?_) (Nat.eq_of_beq_eq_true hgt)
      subst h; simp [Cell.okWide, hu, Cell.ok] at hok
    case bool =>
      refine one (fun ⟨cs, h⟩ => ?_) (Nat.eq_of_beq_eq_true hgt)
      subst h; simp [Cell.okWide, hu, Cell.ok] at hok
    case string =>
      refine one (fun ⟨cs, h⟩ => ?_) (Nat.eq_of_beq_eq_true hgt)
      subst h; simp [Cell.okWide, hu, Cell.ok] at hok

section
variable {H : Type} {enc : TypeId × Value → H} {P : Program}

theorem args_read {W : World} {base : Nat} {tys : List TypeId} (hg : goodT P tys = true) : ∀ {ts : List TypeId} {vs : List Value} {ds : List (DataW H)} {ps : List MemPlace}, (∀ t ∈ ts, t ∈ tys) →
    (∀ (j : Nat) t v, ts[j]? = some t → vs[j]? = some v → Value.okWide P W .any base t v) → DataW.TrodAll enc P W 0 (fun _ => true) true ts vs ds ps →
    ds.length = ts.length ∧ ∃ dss, TypedAll P ts dss ∧ VReps W (hpL []) C0 (argAVs P ts dss) vs
  | [], vs, ds, ps, _, _, h => by
    obtain ⟨rfl, rfl, rfl⟩ := trodAll_nil h
    exact ⟨rfl, [], trivial, by simp [argAVs, VReps]⟩
  | t :: ts, vs, ds, ps, ht, hok, h => by
    obtain ⟨v, vs', d, ds', p, q, rfl, rfl, rfl, h1, h2⟩ := trodAll_cons h
    obtain ⟨k0, dss, k1, k2⟩ := args_read hg (fun t' h' => ht t' (by simp [h'])) (fun j t' v' h3 h4 => hok (j + 1) t' v' (by simpa using h3) (by simpa using h4)) h2
    obtain ⟨fuel, hf⟩ := h1
    obtain ⟨dd, a1, a2, a3, a4⟩ := read_ok hg fuel t _ _ (ht t (by simp)) hf
    refine ⟨by simp [k0], dd :: dss, ⟨a1, k1⟩, ?_⟩
    simp only [argAVs, VReps]
    exact ⟨v, vs', rfl, arg_rep hg (ht t (by simp)) (hok 0 t v rfl rfl) a1 a2 a3 a4, k2⟩

theorem args_again {W W' : World} (hl : laidOutB P = true) (hb : Below W.heap.size W W') {sp : Nat → Bool} : ∀ {ts : List TypeId} {vs : List Value} {ds : List (DataW H)} {ps : List MemPlace}, (∀ t ∈ ts, P.readableRec t = true ∧ t < P.types.size) →
    (∀ x ∈ ps, x.block < W.heap.size) → (∀ x ∈ ps, sp x.block = true) → DataW.TrodAll enc P W 0 (fun _ => true) true ts vs ds ps → DataW.TrodAll enc P W' 0 sp true ts vs ds ps
  | [], vs, ds, ps, _, _, _, h => by
    obtain ⟨rfl, rfl, rfl⟩ := trodAll_nil h
    exact trodAll_mk0
  | t :: ts, vs, ds, ps, hr, hlt, hsp, h => by
    obtain ⟨v, vs', d, ds', p, q, rfl, rfl, rfl, h1, h2⟩ := trodAll_cons h
    have k := args_again hl hb (fun t' h' => hr t' (by simp [h'])) (fun x hx => hlt x (by simp [hx])) (fun x hx => hsp x (by simp [hx])) h2
    refine ⟨p, q, WideElems.Trod_stays hl (hr t (by simp)).1 (hr t (by simp)).2 h1 (fun x hx => hb.same (hlt x (by simp [hx]))) (fun x hx => hsp x (by simp [hx])), k, rfl⟩

theorem law_of {f : FuncId} {fn : Func} {s : ChangeSpec} {apart fresh handsOn again : Bool} {tys : List TypeId} (hg : goodT P tys = true) (hpar : ∀ t ∈ fn.params.toList, t ∈ tys) (hl : laidOutB P = true)
    (hrd : ∀ t ∈ fn.params.toList, P.readableRec t = true ∧ t < P.types.size) {bt : TypeId} (hres : fn.resultTypes = #[bt]) (hbt : P.underlying bt = some .bool) (hvars : s.vars = [])
    (hfn : ∀ ds : List (DataW H), ds.length = fn.params.toList.length → s.fn H ds = { results := [.lit (.bool true)], args := ds })
    (key : ∀ dss : List (List D), TypedAll P fn.params.toList dss → ACall P 0 f (argAVs P fn.params.toList dss) (hpL []) (.bool true) (hpL []))
    (W : World) (base : Nat) (args : Array Value) (ds gs : List (DataW H)) (before : List MemPlace) (hval : ∀ (j : Nat) t v, fn.params[j]? = some t → args[j]? = some v → Value.okWide P W .any base t v)
    (hW : DataW.Whole enc P fn.params.toList s.vars apart W args.toList ds gs before) : Calls P f args W fun e W' => ∃ v, e = .returned v ∧ s.post enc P fn apart fresh handsOn again W args v W' := by
  have hW' := hW
  have hlt := hW.lt
  obtain ⟨p, q, hA, hV, rfl, hfz, hnd⟩ := hW
  have hV' := hV
  rw [hvars] at hV'
  obtain ⟨rfl, rfl⟩ := trodVars_none hV'
  simp only [List.append_nil] at hW' hlt
  obtain ⟨k0, dss, k1, k2⟩ := args_read hg hpar (fun j t v h1 h2 => hval j t v (by simpa using h1) (by simpa using h2)) hA
  have hc := law_calls (key dss k1) k2
  simp only [Array.toArray_toList] at hc
  refine Calls.mono hc ?_
  rintro e W' ⟨rfl, hb, hfr⟩
  have hs := hfn ds k0
  refine ⟨_, rfl, post_of_same (pa := p) (pv := []) hW' ?_ ?_ ?_ (by simp) (keptBut_below hb _) hfr ?_⟩
  · intro b sp hd
    rw [List.append_nil, hs, hres]
    exact trodAll_cons_mk (shut_bool hbt _) trodAll_mk0
  · intro sp hsp
    rw [List.append_nil, hs]
    exact args_again hl hb hrd hlt hsp hA
  · intro sp hsp
    rw [List.append_nil, hs, hvars]
    rfl
  · exact ok_one hres rfl (okWide_bool_mk hbt _)
end

end Go.Al
