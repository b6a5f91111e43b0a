/- The abstract logic, part 23: a slice inside a row, handed to a call that writes into it. -/
import Derived.Test.YtjdmlcpngddgaaaAlApp
set_option linter.unusedVariables false
set_option linter.unusedSimpArgs false
namespace Go.Al
open Go Go.RowKit

/-- A slice that lies in a row, loaded so that it is known where it lies. -/
theorem ok_cel {P : Program} {o : Oper} {σ : St} {t : TypeId} {x : Operand} {id len i off ver e : Nat} {xs : List (List D)} {el : List D} {ys : List (List D)}
    (ho : o.op = .load t x) (hx : σ.ev x = .rptr id len i off) (hi : σ.hp id = some (.row true ver e xs)) (hlen : xs.length = len) (hel : xs[i]? = some el) (hd : el[off]? = some (.sl ys)) (ha : agOf (tyI P) t = some false) (hs : szOf (tyI P) t = some 1) :
    OpOk P o σ ⟨.cel id len ver (i * e + off), []⟩ := by
  refine opok_value fun C a w hc => ?_
  have hxv := hc.ev x
  rw [hx] at hxv
  simp only [VRep, hi] at hxv
  obtain ⟨_, _, hxv⟩ := hxv
  obtain ⟨b, hb, hv⟩ := hxv hlen
  have hrep := hc.heap.rep id _ hi
  obtain ⟨b', hb', vs, hvl, hvc, hvr⟩ := row_elem hrep hi hel
  rw [hb] at hb'
  obtain rfl := Option.some.inj hb'
  have hoff := (List.getElem?_eq_some_iff.1 hd).1
  obtain ⟨u, hu⟩ : ∃ u, vs[off]? = some u := ⟨_, List.getElem?_eq_getElem (by omega)⟩
  have hur : VRep w σ.hp C (MD (.bor id ver) (.sl ys)) u := hvr.at (by rw [List.getElem?_map, hd]; rfl) hu
  simp only [MD, VRep] at hur
  have hbS : b ∈ (C id).S := by
    simp only [BRep, if_true] at hrep
    obtain ⟨_, _, _, _, _, _, _, hS, _⟩ := hrep
    rw [hS, hb]; simp
  have hcel : VRep w σ.hp C (.cel id len ver (i * e + off)) u := by
    simp only [VRep, hi]
    exact ⟨hur.1, by omega, Nat.le_refl _, fun _ _ => ⟨b, hb, hbS, hvc off u hu⟩⟩
  obtain ⟨u', h1, h2⟩ := load_got (P := P) (w := w) (hp := σ.hp) (C := C) ha hs (ad := ⟨b, i * e + off, none⟩) (vs := [u]) (l := [.cel id len ver (i * e + off)]) (v := .cel id len ver (i * e + off)) (fun j x hj => by
    cases j with
    | zero => simp at hj; subst hj; rw [Addr.add_lit]; exact hvc off u hu
    | succ j => simp at hj) (by simp only [VReps]; exact ⟨u, [], rfl, hcel, rfl⟩) rfl
  refine ⟨u', ?_, h2⟩
  simp [execOp, ho, hv, Instr.loadAt, Instr.sureAddr, h1]

theorem scal_rep {w w' : World} {hp hp' : Hp} {C C' : Co} {a : AV} {v : Value} (hs : scal a = true) (h : VRep w hp C a v) : VRep w' hp' C' a v := by
  cases a <;> simp [scal] at hs <;> simpa [VRep] using h
theorem scals_rep {w w' : World} {hp hp' : Hp} {C C' : Co} : ∀ {as : List AV} {vs : List Value}, as.all scal = true → VReps w hp C as vs → VReps w' hp' C' as vs
  | [], vs, _, h => by simpa [VReps] using h
  | a :: as, vs, hs, h => by
    simp only [List.all_cons, Bool.and_eq_true] at hs
    simp only [VReps] at h ⊢
    obtain ⟨v, vs', h1, h2, h3⟩ := h
    exact ⟨v, vs', h1, scal_rep hs.1 h2, scals_rep hs.2 h3⟩

theorem flatten_set {α : Type} {e : Nat} {xs : List (List α)} (he : ∀ cs ∈ xs, cs.length = e) {i off : Nat} {el : List α} {d : α} (hi : xs[i]? = some el) (ho : off < e) :
    (xs.set i (el.set off d)).flatten = xs.flatten.set (i * e + off) d := by
  have hel : el.length = e := he el (List.mem_of_getElem? hi)
  have h1 : splice el off [d] = el.set off d := by
    unfold splice
    rw [List.set_eq_take_append_cons_drop, if_pos (by omega)]
    simp
  have := flatten_splice he (ds := [d]) hi (off := off) (by simp; omega)
  rw [h1] at this
  rw [this]
  have hfl := length_flatten he
  have hil := (List.getElem?_eq_some_iff.1 hi).1
  have hie : (i + 1) * e ≤ xs.length * e := Nat.mul_le_mul_right e hil
  rw [Nat.add_mul] at hie
  unfold splice
  rw [List.set_eq_take_append_cons_drop, if_pos (by omega)]
  simp

theorem set_split {α : Type} {L : List α} {k : Nat} {x y : α} (h : L[k]? = some x) : ∃ A B, L = A ++ x :: B ∧ L.set k y = A ++ y :: B ∧ A.length = k := by
  obtain ⟨hk, rfl⟩ := List.getElem?_eq_some_iff.1 h
  refine ⟨L.take k, L.drop (k + 1), ?_, ?_, by simp; omega⟩
  · rw [← List.drop_eq_getElem_cons hk]; simp
  · rw [List.set_eq_take_append_cons_drop, if_pos hk]

theorem ok_nest {P : Program} {o : Oper} {σ : St} {fo : Operand} {args : Array Operand} {ats : Array TypeId} {g : FuncId} {caps rest : List AV} {id len ver i off e : Nat} {xs ys ys' : List (List D)} {el : List D} {r : AV} {v1 : Nat → Nat}
    (ho : o.op = .call { callee := .value fo, args := args, argTypes := ats }) (hf : σ.ev fo = .fn g caps) (hargs : args.toList.map σ.ev ++ caps = .cel id len ver (i * e + off) :: rest) (hrest : rest.all scal = true) (hr : scal r = true)
    (hi : σ.hp id = some (.row true ver e xs)) (hlen : xs.length = len) (hel : xs[i]? = some el) (hoff : off < el.length) (hd : el[off]? = some (.sl ys)) (hyl : ys'.length = ys.length)
    (hc : ∀ e', (∀ cs ∈ ys, cs.length = e') → 0 < e' → ACall P 1 g (.row 0 ys.length :: rest) (hpL [some (.row true 0 e' ys)]) r (hpL [some (.row true (v1 e') e' ys')])) :
    OpOk P o σ ⟨r, [(id, .row true (ver + 1) e (xs.set i (el.set off (.sl ys'))))]⟩ := by
  intro C a w hcc
  have H := hcc.heap
  have hrep := H.rep id _ hi
  simp only [BRep, if_true] at hrep
  obtain ⟨he, h0, te, vals, Ss, own, hs, hS, hrr⟩ := hrep
  have helen : el.length = e := he el (List.mem_of_getElem? hel)
  have hoe : off < e := by omega
  -- the arguments
  have hfv := hcc.ev fo
  rw [hf] at hfv
  simp only [VRep] at hfv
  obtain ⟨cvs, hfo, hcvs⟩ := hfv
  have hav := VReps.append (VReps.map_ev hcc args.toList) hcvs
  rw [hargs] at hav
  simp only [VReps] at hav
  obtain ⟨u, vrest, hvs, hu, hvrest⟩ := hav
  simp only [VRep, hi] at hu
  obtain ⟨hu1, _, _, hu2⟩ := hu
  obtain ⟨b, hb, hbS, hcell⟩ := hu2 hlen trivial
  -- what lies in the cell
  have hil : i < xs.length := (List.getElem?_eq_some_iff.1 hel).1
  have hfl := length_flatten he
  have hvl := own.1
  have hie : (i + 1) * e ≤ xs.length * e := Nat.mul_le_mul_right e hil
  rw [Nat.add_mul] at hie
  have hkl : i * e + off < vals.length := by omega
  have hku : vals[i * e + off]? = some u := by
    have h1 := own.cells hb (i * e + off) _ (List.getElem?_eq_getElem hkl)
    rw [Addr.add_lit, Nat.zero_add, hcell] at h1
    rw [List.getElem?_eq_getElem hkl]; exact h1.symm
  have hkd : xs.flatten[i * e + off]? = some (.sl ys) := by rw [flatten_at he hel hoe]; exact hd
  obtain ⟨Sk, hkS⟩ : ∃ Sk, Ss[i * e + off]? = some Sk := ⟨_, List.getElem?_eq_getElem (by omega)⟩
  have hX := hrr _ _ _ _ hkd hku hkS
  have hXr : ∃ e', 0 < e' ∧ (∀ cs ∈ ys, cs.length = e') ∧ XRow w e' ys u Sk := by
    generalize hdd : D.sl ys = dd at hX
    cases hX with
    | int h => simp at hdd
    | bool => simp at hdd
    | str h => simp at hdd
    | @sl e' ys0 _ te' vals' Ss' he' h0' own' hs' hr' =>
      injection hdd with hdd
      subst hdd
      exact ⟨e', h0', he', he', h0', te', vals', Ss', own', hs', rfl, hr'⟩
  obtain ⟨e', he0, hee, hXr⟩ := hXr
  obtain ⟨A, B, hSs, hSset, hAl⟩ := set_split (y := Sk) hkS
  have hSn : (C id).S.Nodup := H.nodup id (by rw [hi]; simp)
  rw [hS, hSs, hb] at hSn
  simp only [Option.toList_some, List.flatten_append, List.flatten_cons, List.singleton_append, List.nodup_cons, List.nodup_append, List.mem_append, not_or] at hSn
  obtain ⟨⟨hbA, hbSk, hbB⟩, hAn, ⟨hSkn, hBn, hSkB⟩, hAD⟩ := hSn
  have hSlt := H.lt (id := id) (by rw [hi]; simp)
  have inS : ∀ x, x ∈ (C id).S ↔ x = b ∨ x ∈ A.flatten ∨ x ∈ Sk ∨ x ∈ B.flatten := fun x => by
    rw [hS, hSs, hb]; simp
  -- the callee
  obtain ⟨⟨fn, c, hfn, hname, hbody⟩, hcall⟩ := hc e' hee he0
  have hrun : (execOp a.eval o).run P w = .ok (.enter g (args.map a.eval ++ cvs)) w := by
    have h1 : fn.name ≠ "runtime.NumGoroutine" := by simpa using hname
    have h2 : ∀ args, (callFunc g args).run P w = .ok (.enter g args) w := fun args => by simp [callFunc, hfn, h1, hbody]
    unfold execOp
    simp [ho, resolve, hfo, Deferred.ofValue, invoke, h2]
  let Cq0 : Co := ⟨fun _ => ⟨u, Sk⟩, fun x => w.heap.size ≤ x ∨ x ∈ Sk⟩
  have hq0 : ∀ (k : Nat) blk, hpL [some (.row true 0 e' ys)] k = some blk → k = 0 ∧ blk = .row true 0 e' ys := fun k blk h => by
    cases k with
    | zero => simp [hpL] at h; exact ⟨rfl, h.symm⟩
    | succ k => simp [hpL] at h
  have HC0 : HConc w (hpL [some (.row true 0 e' ys)]) Cq0 := by
    refine ⟨fun x hx => .inl hx, fun k _ x hx => .inr hx, fun k blk hk => ?_, fun k _ => hSkn, fun k j hkj hk hj => ?_⟩
    · obtain ⟨rfl, rfl⟩ := hq0 k blk hk
      simp only [BRep, if_true]; exact hXr
    · cases hk' : hpL [some (Blk.row true 0 e' ys)] k with
      | none => exact absurd hk' hk
      | some x =>
        cases hj' : hpL [some (Blk.row true 0 e' ys)] j with
        | none => exact absurd hj' hj
        | some y => exact absurd ((hq0 _ _ hk').1.trans (hq0 _ _ hj').1.symm) hkj
  have hargv : VReps w (hpL [some (.row true 0 e' ys)]) Cq0 (.row 0 ys.length :: rest) (args.toList.map a.eval ++ cvs.toList) := by
    rw [hvs]
    simp only [VReps]
    refine ⟨u, vrest, rfl, ?_, scals_rep hrest hvrest⟩
    simp only [VRep, hpL, List.getD_cons_zero]
    exact ⟨hu1, Nat.le_refl _, fun _ => rfl⟩
  have hcalls := hcall Cq0 w _ HC0 hargv
  unfold Oper.wp
  rw [hrun, Oper.upon_enter]
  have harr : (args.toList.map a.eval ++ cvs.toList).toArray = args.map a.eval ++ cvs := by
    apply Array.ext'; simp
  rw [harr] at hcalls
  refine Calls.mono hcalls ?_
  rintro ex w' ⟨v, Cq, S, rfl, hCV, hV0, HQ, hgone, hR⟩
  simp only
  have hfr := hgone.fr
  obtain ⟨blk2, hb2, hid2⟩ := hgone.vev 0 (by omega) (.row true 0 e' ys) rfl
  have hb2' : blk2 = .row true (v1 e') e' ys' := by
    rw [upd_ne _ _ (by omega)] at hb2
    simp [hpL] at hb2; exact hb2.symm
  subst hb2'
  obtain ⟨_, _, hvu, _, _⟩ := hid2
  have hvu' : (Cq 0).v = u := hvu hyl
  have hX2 := HQ.rep 0 _ hb2
  simp only [BRep, if_true] at hX2
  rw [hvu'] at hX2
  have ownq : ∀ x, Own (hpL [some (.row true 0 e' ys)]) Cq0 x ↔ x ∈ Sk := fun x => ⟨fun ⟨_, _, h⟩ => h, fun h => ⟨0, by simp [hpL], h⟩⟩
  have S1in : ∀ x ∈ (Cq 0).S, x ∈ Sk ∨ w.heap.size ≤ x := fun x hx => by
    rcases hfr.own x ⟨0, by rw [hb2]; simp, hx⟩ with h | h
    · exact .inl ((ownq x).1 h)
    · exact .inr h
  have keep : ∀ x, x < w.heap.size → x ∉ Sk → w'.heap[x]? = w.heap[x]? := fun x hx hn => hfr.block x hx fun h => hn ((ownq x).1 h)
  have hlt : ∀ x, (x = b ∨ x ∈ A.flatten ∨ x ∈ Sk ∨ x ∈ B.flatten) → x < w.heap.size := fun x hx => hSlt x ((inS x).2 hx)
  obtain ⟨A', B', hSs', hSset', hAl'⟩ := set_split (y := (Cq 0).S) hkS
  have hAB : A' = A ∧ B' = B := by
    rw [hSs] at hSs'
    have := List.append_inj hSs' (by omega)
    exact ⟨this.1.symm, by have := this.2; simp at this; exact this.symm⟩
  obtain ⟨rfl, rfl⟩ := hAB
  have hS1n : (Cq 0).S.Nodup := HQ.nodup 0 (by rw [hb2]; simp)
  let C2 := C.set id ⟨(C id).v, (C id).v.ownBlock.toList ++ (Ss.set (i * e + off) (Cq 0).S).flatten⟩
  have C2id : C2 id = ⟨(C id).v, (C id).v.ownBlock.toList ++ (Ss.set (i * e + off) (Cq 0).S).flatten⟩ := Co.set_same ..
  have inS2 : ∀ x, x ∈ (C2 id).S ↔ x = b ∨ x ∈ A'.flatten ∨ x ∈ (Cq 0).S ∨ x ∈ B'.flatten := fun x => by
    rw [C2id]; simp only; rw [hSset', hb]; simp
  let hp2 := writes σ.hp [(id, .row true (ver + 1) e (xs.set i (el.set off (.sl ys'))))]
  have hp2id : hp2 id = some (.row true (ver + 1) e (xs.set i (el.set off (.sl ys')))) := upd_same ..
  obtain ⟨hE, hF, hHC⟩ := turn_conc (hp' := hp2) (C' := C2) (fun j => j = id) H rfl hfr.os hfr.tape hfr.output hfr.size hfr.frz
    (fun x hx hn => keep x hx fun h => hn id rfl (by rw [hi]; simp) ((inS x).2 (.inr (.inr (.inl h)))))
    (fun j hj => ⟨upd_ne _ _ hj, Co.set_ne C _ hj⟩)
    (fun j blk hj hb' => by
      subst hj
      rw [hi] at hb'
      obtain rfl := Option.some.inj hb'
      exact ⟨_, hp2id, rfl, by simp, fun _ => by rw [C2id], by omega, fun h => by omega⟩)
    (fun j hj _ x hx => by
      subst hj
      rcases (inS2 x).1 hx with h | h | h | h
      · exact .inr ⟨j, rfl, by rw [hi]; simp, (inS x).2 (.inl h)⟩
      · exact .inr ⟨j, rfl, by rw [hi]; simp, (inS x).2 (.inr (.inl h))⟩
      · rcases S1in x h with h | h
        · exact .inr ⟨j, rfl, by rw [hi]; simp, (inS x).2 (.inr (.inr (.inl h)))⟩
        · exact .inl h
      · exact .inr ⟨j, rfl, by rw [hi]; simp, (inS x).2 (.inr (.inr (.inr h)))⟩)
    (fun j hj _ => by
      subst hj
      rw [C2id]
      simp only
      rw [hSset', hb]
      simp only [Option.toList_some, List.flatten_append, List.flatten_cons, List.singleton_append, List.nodup_cons, List.nodup_append, List.mem_append, not_or]
      have out : ∀ x, x < w.heap.size → x ∉ Sk → x ∉ (Cq 0).S := fun x hx hn h => by
        rcases S1in x h with h | h
        · exact hn h
        · omega
      refine ⟨⟨hbA, out b (hlt b (.inl rfl)) hbSk, hbB⟩, hAn, ⟨hS1n, hBn, fun x hx y hy hxy => ?_⟩, fun x hx y hy hxy => ?_⟩
      · subst hxy
        exact out x (hlt x (.inr (.inr (.inr hy)))) (fun h => hSkB x h x hy rfl) hx
      · subst hxy
        rcases hy with hy | hy
        · exact out x (hlt x (.inr (.inl hx))) (fun h => hAD x hx x (.inl h) rfl) hy
        · exact hAD x hx x (.inr hy) rfl)
    (fun j j' hjj hj hj' => absurd (hj.trans hj'.symm) hjj)
  have hHC2 := hHC fun j blk hj hb' => by
    subst hj
    rw [hp2id] at hb'
    obtain rfl := Option.some.inj hb'
    simp only [BRep, if_true]
    rw [C2id]
    refine ⟨fun cs hcs => ?_, h0, te, vals, Ss.set (i * e + off) (Cq 0).S, ?_, by simp [hs], rfl, fun j' d' u' S' h1 h2 h3 => ?_⟩
    · rcases List.mem_or_eq_of_mem_set hcs with h | h
      · exact he cs h
      · rw [h]; simp [helen]
    · have := ownsRow_heap (w' := w') own fun k hk => by
        rw [hb] at hk
        obtain rfl := Option.some.inj hk
        exact keep b (hlt b (.inl rfl)) hbSk
      simpa using this
    · rw [flatten_set he hel hoe] at h1
      by_cases hjk : j' = i * e + off
      · subst hjk
        rw [List.getElem?_set_self (by omega)] at h1
        rw [List.getElem?_set_self (by omega)] at h3
        obtain rfl := Option.some.inj h1
        obtain rfl := Option.some.inj h3
        rw [hku] at h2
        obtain rfl := Option.some.inj h2
        exact hX2.rep
      · rw [List.getElem?_set_ne (Ne.symm hjk)] at h1 h3
        have hx := hrr j' d' u' S' h1 h2 h3
        refine hx.keep fun x hxS => keep x (hx.lt x hxS) fun hxk => ?_
        -- other cells' blocks are apart from this cell's
        have hj'l := (List.getElem?_eq_some_iff.1 h3).1
        rw [hSs] at h3 hj'l
        by_cases hlt' : j' < A'.length
        · rw [List.getElem?_append_left hlt'] at h3
          exact hAD x (List.mem_flatten.2 ⟨S', List.mem_of_getElem? h3, hxS⟩) x (.inl hxk) rfl
        · rw [List.getElem?_append_right (by omega)] at h3
          have : j' - A'.length ≠ 0 := by omega
          obtain ⟨q, hq⟩ : ∃ q, j' - A'.length = q + 1 := ⟨j' - A'.length - 1, by omega⟩
          rw [hq, List.getElem?_cons_succ] at h3
          exact hSkB x hxk x (List.mem_flatten.2 ⟨S', List.mem_of_getElem? h3, hxS⟩) rfl
  have hv : VRep w' hp2 C2 r v := by
    refine scal_rep hr (w := w') (hp := upd (hpL [some (.row true (v1 e') e' ys')]) 1 (some .held)) (C := Cq) ?_
    cases r <;> simp [scal] at hr <;> simp only [R2, R1, RR] at hR <;> exact hR.1
  exact ⟨C2, hcc.put o.dst hE hv hHC2, hE, hF⟩

section
variable {P : Program} {F : Ty} [hF : TyF P F] {V nt : Nat} {Q : Exit → St → Prop} {k : List Kf} {l : Tm} {h h' : Hl} {os : Array Oper} {o : Oper} {r : List Oper} {d : Tmp}
theorem goCel {t : TypeId} {x : Operand} {id len i off ver e : Nat} {xs : List (List D)} {el : List D} {ys : List (List D)}
    (hd' : o.dst = some d) (hw : wantedA os o ⟨nt, tmA l, hpL h⟩ = some true) (ho : o.op = .load t x) (hx : (St.mk nt (tmA l) (hpL h)).ev x = .rptr id len i off) (hi : hpL h id = some (.row true ver e xs)) (hlen : xs.length = len) (hel : xs[i]? = some el) (hd : el[off]? = some (.sl ys)) (ha : agOf F t = some false) (hs : szOf F t = some 1)
    (hg : AGo P V Q (.ops os r :: k) .normal ⟨nt, tmA ((d, .cel id len ver (i * e + off)) :: l), hpL h⟩) : AGo P V Q (.ops os (o :: r) :: k) .normal ⟨nt, tmA l, hpL h⟩ := by
  have hFe := hF.eq
  subst hFe
  exact goOp hd' hw (ok_cel ho hx hi hlen hel hd ha hs) rfl hg
theorem goNest {fo : Operand} {args : Array Operand} {ats : Array TypeId} {g : FuncId} {caps rest : List AV} {id len ver i off e : Nat} {xs ys ys' : List (List D)} {el : List D} {res : AV} {v1 : Nat → Nat}
    (hd' : o.dst = some d) (hw : wantedA os o ⟨nt, tmA l, hpL h⟩ = some true) (ho : o.op = .call { callee := .value fo, args := args, argTypes := ats }) (hf : (St.mk nt (tmA l) (hpL h)).ev fo = .fn g caps)
    (hargs : args.toList.map (St.mk nt (tmA l) (hpL h)).ev ++ caps = .cel id len ver (i * e + off) :: rest) (hrest : rest.all scal = true) (hr : scal res = true)
    (hi : hpL h id = some (.row true ver e xs)) (hlen : xs.length = len) (hel : xs[i]? = some el) (hoff : off < el.length) (hd : el[off]? = some (.sl ys)) (hyl : ys'.length = ys.length)
    (hc : ∀ e', (∀ cs ∈ ys, cs.length = e') → 0 < e' → ACall P 1 g (.row 0 ys.length :: rest) (hpL [some (.row true 0 e' ys)]) res (hpL [some (.row true (v1 e') e' ys')]))
    (hk : setK h id (some (.row true (ver + 1) e (xs.set i (el.set off (.sl ys'))))) some = some h')
    (hg : AGo P V Q (.ops os r :: k) .normal ⟨nt, tmA ((d, res) :: l), hpL h'⟩) : AGo P V Q (.ops os (o :: r) :: k) .normal ⟨nt, tmA l, hpL h⟩ := by
  rw [setK_eq] at hk
  obtain rfl := Option.some.inj hk
  exact goOp hd' hw (ok_nest ho hf hargs hrest hr hi hlen hel hoff hd hyl hc) (hpL_set h _ (hpL_lt hi)) hg
end
end Go.Al
