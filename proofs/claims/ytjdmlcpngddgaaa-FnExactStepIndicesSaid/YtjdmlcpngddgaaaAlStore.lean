/- The abstract logic, part 12: storing into a row. -/
import Derived.Test.YtjdmlcpngddgaaaAlLe
set_option linter.unusedVariables false
set_option linter.unusedSimpArgs false
namespace Go.Al
open Go Go.RowKit

theorem splice_length {α : Type} {l cs : List α} {off : Nat} (h : off + cs.length ≤ l.length) : (splice l off cs).length = l.length := by
  simp [splice]; omega
theorem splice_at {α : Type} {l cs : List α} {off : Nat} (h : off + cs.length ≤ l.length) (j : Nat) :
    (splice l off cs)[j]? = if off ≤ j ∧ j < off + cs.length then cs[j - off]? else l[j]? := by
  unfold splice
  split
  · rename_i hj
    rw [List.append_assoc, List.getElem?_append_right (by simp; omega), List.getElem?_append_left (by simp; omega)]
    congr 1
    simp; omega
  · rename_i hj
    by_cases h1 : j < off
    · rw [List.append_assoc, List.getElem?_append_left (by simp; omega), List.getElem?_take, if_pos h1]
    · rw [List.getElem?_append_right (by simp; omega), List.getElem?_drop]
      congr 1
      simp; omega
theorem splice_take {α : Type} {l cs : List α} {off n : Nat} (h : off + cs.length ≤ n) (hn : n ≤ l.length) : (splice l off cs).take n = splice (l.take n) off cs := by
  apply List.ext_getElem?
  intro j
  rw [List.getElem?_take, splice_at (by omega), splice_at (by simp; omega), List.getElem?_take]
  by_cases hj : j < n
  · simp [hj]
  · simp only [hj, if_false]
    rw [if_neg (by omega)]
theorem flatten_splice {α : Type} {e : Nat} {xs : List (List α)} (he : ∀ cs ∈ xs, cs.length = e) {i off : Nat} {el ds : List α} (hi : xs[i]? = some el) (ho : off + ds.length ≤ e) :
    (xs.set i (splice el off ds)).flatten = splice xs.flatten (i * e + off) ds := by
  have hil : i < xs.length := (List.getElem?_eq_some_iff.1 hi).1
  have hel : el.length = e := he el (List.mem_of_getElem? hi)
  have hfl := length_flatten he
  have hie : (i + 1) * e ≤ xs.length * e := Nat.mul_le_mul_right e hil
  rw [Nat.add_mul] at hie
  have hset : ∀ cs ∈ xs.set i (splice el off ds), cs.length = e := fun cs hcs => by
    rcases List.mem_or_eq_of_mem_set hcs with h | h
    · exact he cs h
    · rw [h, splice_length (by omega), hel]
  apply List.ext_getElem?
  intro j
  rw [splice_at (by omega)]
  have hfl2 := length_flatten hset
  simp only [List.length_set] at hfl2
  by_cases hj : j < xs.length * e
  · have he0 : 0 < e := by
      rcases Nat.eq_zero_or_pos e with h | h
      · subst h; simp at hj
      · exact h
    have hq : j / e < xs.length := Nat.div_lt_of_lt_mul (by rw [Nat.mul_comm]; exact hj)
    have hr : j % e < e := Nat.mod_lt _ he0
    have hjq : j = (j / e) * e + j % e := by rw [Nat.mul_comm]; exact (Nat.div_add_mod j e).symm
    obtain ⟨q, hqd⟩ : ∃ q, q = j / e := ⟨_, rfl⟩
    obtain ⟨s, hsd⟩ : ∃ s, s = j % e := ⟨_, rfl⟩
    rw [← hqd, ← hsd] at hjq
    rw [← hqd] at hq
    rw [← hsd] at hr
    have hx : xs[q]? = some xs[q] := List.getElem?_eq_getElem hq
    rw [hjq]
    rw [flatten_at hset (i := q) (cs := (if q = i then splice el off ds else xs[q])) (by
      rw [List.getElem?_set]
      by_cases hqi : i = q
      · subst hqi; simp [hil]
      · rw [if_neg hqi, if_neg (fun h => hqi h.symm), hx]) hr]
    by_cases hqi : q = i
    · subst hqi
      rw [hi] at hx
      obtain rfl := Option.some.inj hx
      simp only [if_true]
      rw [splice_at (by omega), flatten_at he hi hr]
      by_cases hh : off ≤ s ∧ s < off + ds.length
      · rw [if_pos hh, if_pos (by omega)]; congr 1; omega
      · rw [if_neg hh, if_neg (by omega)]
    · rw [if_neg hqi, flatten_at he hx hr]
      rw [if_neg]
      rintro ⟨h1, h2⟩
      rcases Nat.lt_or_gt_of_ne hqi with h | h
      · have := Nat.mul_le_mul_right e h; rw [Nat.succ_mul] at this; omega
      · have := Nat.mul_le_mul_right e h; rw [Nat.succ_mul] at this; omega
  · rw [List.getElem?_eq_none (by omega), if_neg (by omega), List.getElem?_eq_none (by omega)]

theorem mem_splice {α : Type} {l cs : List α} {off : Nat} {x : α} (h : x ∈ splice l off cs) : x ∈ l ∨ x ∈ cs := by
  unfold splice at h
  simp only [List.mem_append] at h
  rcases h with (h | h) | h
  · exact .inl (List.mem_of_mem_take h)
  · exact .inr h
  · exact .inl (List.mem_of_mem_drop h)
theorem splice_flatten_nodup {α : Type} {l cs : List (List α)} {off : Nat} (h1 : l.flatten.Nodup) (h2 : cs.flatten.Nodup) (h : ∀ b ∈ l.flatten, b ∉ cs.flatten) : (splice l off cs).flatten.Nodup := by
  have e : l.flatten = (l.take off).flatten ++ (l.drop off).flatten := by rw [← List.flatten_append, List.take_append_drop]
  rw [e, List.nodup_append] at h1
  obtain ⟨k1, k2, k3⟩ := h1
  have sub : ∀ b ∈ (l.drop (off + cs.length)).flatten, b ∈ (l.drop off).flatten := fun b hb => by
    obtain ⟨s, hs, hb⟩ := List.mem_flatten.1 hb
    rw [← List.drop_drop] at hs
    exact List.mem_flatten.2 ⟨s, List.mem_of_mem_drop hs, hb⟩
  unfold splice
  simp only [List.flatten_append, List.nodup_append]
  refine ⟨⟨k1, h2, fun a ha b hb hab => ?_⟩, ?_, fun a ha b hb hab => ?_⟩
  · subst hab; exact h a (by rw [e]; exact List.mem_append_left _ ha) hb
  · have e2 : (l.drop off).flatten = ((l.drop off).take cs.length).flatten ++ (l.drop (off + cs.length)).flatten := by rw [← List.drop_drop, ← List.flatten_append, List.take_append_drop]
    rw [e2, List.nodup_append] at k2
    exact k2.2.1
  · subst hab
    rcases List.mem_append.1 ha with ha | ha
    · exact k3 a ha a (sub a hb) rfl
    · exact h a (by rw [e]; exact List.mem_append_right _ (sub a hb)) ha

theorem ok_storeRow {P : Program} {o : Oper} {σ : St} {t : TypeId} {x y : Operand} {id len i off ver e : Nat} {fl : Bool} {xs : List (List D)} {el ds : List D} {cs : List AV} {is : List Nat}
    (ho : o.op = .store t x y) (hx : σ.ev x = .rptr id len i off) (hi : σ.hp id = some (.row fl ver e xs)) (hlen : xs.length = len) (hcs : avCells (σ.ev y) = some cs) (hs : szOf (tyI P) t = some cs.length)
    (hl : lows fl σ.hp cs = some (ds, is)) (hn : is.Nodup) (hnot : id ∉ is) (hel : xs[i]? = some el) (hoff : off + cs.length ≤ e) :
    OpOk P o σ ⟨.any, (id, .row fl (ver + 1) e (xs.set i (splice el off ds))) :: kills is⟩ := by
  intro C a w hc
  have hxv := hc.ev x
  have hyv := hc.ev y
  rw [hx] at hxv
  simp only [VRep, hi] at hxv
  obtain ⟨_, _, hxv⟩ := hxv
  obtain ⟨b, hb, hav⟩ := hxv hlen
  obtain ⟨hr, hone⟩ := avCells_rep hyv hcs
  obtain ⟨hdl, hcont⟩ := cont_lows hc.heap hr hl hn
  have hrl := hr.length
  have hal := lows_alive hl
  have hane : ∀ j ∈ is, σ.hp j ≠ none := fun j hj => by obtain ⟨_, _, _, _, h⟩ := hal j hj; simp [h]
  have hrep := hc.heap.rep id _ hi
  have hil : i < xs.length := (List.getElem?_eq_some_iff.1 hel).1
  -- what the row was
  have hrow : (∀ cs ∈ xs, cs.length = e) ∧ 0 < e ∧ ∃ te vals, w.ownsRow 0 te e (C id).v xs.length vals ∧ b ∈ (C id).S ∧
      (fl = true → ∃ Ss : List (List Nat), Ss.length = vals.length ∧ (C id).S = b :: Ss.flatten ∧ ∀ (j : Nat) (d : D) (u : Value) (S : List Nat), xs.flatten[j]? = some d → vals[j]? = some u → Ss[j]? = some S → XRep w d u S) ∧
      (fl = false → (C id).S = [b] ∧ ∀ (j : Nat) (d : D) (u : Value), xs.flatten[j]? = some d → vals[j]? = some u → DRep w (Stab σ.hp C w) d u) := by
    simp only [BRep] at hrep
    split at hrep
    · rename_i hf
      obtain ⟨h1, h2, te, vals, Ss, own, h3, h4, h5⟩ := hrep
      rw [hb] at h4
      exact ⟨h1, h2, te, vals, own, by rw [h4]; simp, fun _ => ⟨Ss, h3, by rw [h4]; simp, h5⟩, fun h => by rw [hf] at h; simp at h⟩
    · rename_i hf
      obtain ⟨h1, h2, h3, te, vals, own, h5⟩ := hrep
      rw [hb] at h3
      exact ⟨h1, h2, te, vals, own, by rw [h3]; simp, fun h => absurd h hf, fun _ => ⟨by rw [h3]; simp, h5⟩⟩
  obtain ⟨hxe, he0, te, vals, own, hbS, hX, hD⟩ := hrow
  have hell : el.length = e := hxe el (List.mem_of_getElem? hel)
  obtain ⟨hvl, own2⟩ := own
  have hxf := length_flatten hxe
  have hie : (i + 1) * e ≤ xs.length * e := Nat.mul_le_mul_right e hil
  rw [Nat.add_mul] at hie
  rcases own2 with ⟨_, hz⟩ | ⟨g, cap, cur, hv, hbase, hg, hnc, hcm, hcsz, htake⟩
  · omega
  rw [hv] at hb
  have hgb : g = b := by simpa [Value.ownBlock] using hb
  subst hgb
  obtain ⟨news, hnews⟩ : ∃ news, news = (a.eval y).cells.toList := ⟨_, rfl⟩
  rw [← hnews] at hr hone hdl hcont hrl
  have hcap : xs.length * e ≤ cap * e := Nat.mul_le_mul_right e hnc
  have hnl : (a.eval y).cells.size = cs.length := by rw [hrl, hnews]; simp
  have hplace : i * e + off + news.length ≤ xs.length * e := by omega
  let p := i * e + off
  let arr := (splice cur.toList p news).toArray
  have hrun : (execOp a.eval o).run P w = .ok .skip (w.setRow g arr) := by
    have := run_storeVar (P := P) hs hg (off := p) (v := a.eval y) hnl (by simp only [p]; omega) (by rw [← hnews]; exact hone)
    simp [execOp, ho, hav, Instr.storeAt, Instr.sureAddr, p] at this ⊢
    rw [this]
    simp [arr, p, hnews]
  unfold Oper.wp
  rw [hrun, Oper.upon_skip]
  have hgr : w.grownBy (w.setRow g arr) (if (σ.hp id).isNone = true then none else (C id).v.ownBlock) := by
    rw [hi, hv]
    exact ⟨rfl, rfl, rfl, by simp, fun k hk hne => setRow_other w g k _ (fun e => hne (by simp [Value.ownBlock, e]))⟩
  have hds : ds.length = news.length := hdl
  have hflat := flatten_splice hxe hel (off := off) (ds := ds) (by omega)
  have own' : (w.setRow g arr).ownsRow 0 te e (C id).v (xs.set i (splice el off ds)).length (splice vals p news) := by
    refine ⟨by rw [splice_length (by simp only [p]; omega), hvl]; simp, .inr ⟨g, cap, arr, by rw [hv]; simp, hbase, setRow_heap w g cur _ te _ hg, by simpa using hnc, hcm, ?_, ?_⟩⟩
    · simp only [arr, List.size_toArray]
      rw [splice_length (by simp only [p, Array.length_toList]; omega)]
      simpa using hcsz
    · simp only [arr, List.length_set]
      rw [splice_take (by simp only [p]; omega) (by simp only [Array.length_toList]; omega), htake]
  have hye : ∀ cs' ∈ xs.set i (splice el off ds), cs'.length = e := fun cs' hcs' => by
    rcases List.mem_or_eq_of_mem_set hcs' with h | h
    · exact hxe cs' h
    · rw [h, splice_length (by omega), hell]
  have hIdEv : ∀ cb : CB, cb.v = (C id).v → ∀ b0, σ.hp id = some b0 → IdEv w (w.setRow g arr) (C id) b0 cb (.row fl (ver + 1) e (xs.set i (splice el off ds))) ∧ ∀ k, (C id).v.ownBlock = some k → k ∈ (C id).S := fun cb hcb b0 h0 => by
    rw [hi] at h0
    obtain rfl := Option.some.inj h0
    refine ⟨⟨rfl, by simp, fun _ => hcb, by omega, fun h => by omega⟩, fun k hk => ?_⟩
    rw [hv] at hk
    have : g = k := by simpa [Value.ownBlock] using hk
    rw [← this]; exact hbS
  have hSSlt : ∀ b ∈ SS C is, b < w.heap.size := fun b hb => by
    obtain ⟨q, hq, hqb⟩ := List.mem_flatMap.1 hb
    exact hc.heap.lt (hane q hq) b hqb
  have hSSid : ∀ b ∈ SS C is, b ∉ (C id).S := fun b hb hbid => by
    obtain ⟨q, hq, hqb⟩ := List.mem_flatMap.1 hb
    exact hc.heap.apart q id (fun e => hnot (e ▸ hq)) (hane q hq) (by simp [hi]) b hqb hbid
  have hnd0 := hc.heap.nodup id (by simp [hi])
  have hfin : ∀ cb : CB, cb.v = (C id).v → (∀ b ∈ cb.S, b ∈ (C id).S ∨ b ∈ SS C is) → cb.S.Nodup →
      (∀ hp' C', C' = rowC C id cb is → hp' = writes σ.hp ((id, .row fl (ver + 1) e (xs.set i (splice el off ds))) :: kills is) → Ev w σ.hp C (w.setRow g arr) hp' C' → BRep (w.setRow g arr) hp' C' id (.row fl (ver + 1) e (xs.set i (splice el off ds)))) →
      ∃ C', Conc (σ.app o.dst ⟨.any, (id, .row fl (ver + 1) e (xs.set i (splice el off ds))) :: kills is⟩) C' (a.put o.dst undef) (w.setRow g arr) ∧ Ev w σ.hp C (w.setRow g arr) (writes σ.hp ((id, .row fl (ver + 1) e (xs.set i (splice el off ds))) :: kills is)) C' ∧
        Fr w σ.hp C (w.setRow g arr) (writes σ.hp ((id, .row fl (ver + 1) e (xs.set i (splice el off ds))) :: kills is)) C' := fun cb hcb hS hnd hB => by
    obtain ⟨e1, e2, e3⟩ := row_conc hc.heap hgr (frozen_setRow w _ _) (blk := .row fl (ver + 1) e (xs.set i (splice el off ds))) (cb := cb) hnot hal (hIdEv cb hcb)
      (fun b hb => (hS b hb).elim (fun h => .inr (.inl ⟨by simp [hi], h⟩)) (fun h => .inr (.inr h))) hnd
    exact ⟨_, hc.put o.dst e1 (by simp [VRep]) (e3 (hB _ _ rfl rfl e1)), e1, e2⟩
  cases fl with
  | true =>
    obtain ⟨Ss, hSl, hSe, hSr⟩ := hX rfl
    simp only [Cont, if_true] at hcont
    obtain ⟨Ns, hNl, hNn, hNm, hNr⟩ := hcont
    rw [hSe, List.nodup_cons] at hnd0
    refine hfin ⟨(C id).v, g :: (splice Ss p Ns).flatten⟩ rfl (fun b hb => ?_) ?_ (fun hp' C' hC' hhp E => ?_)
    · rcases List.mem_cons.1 hb with rfl | hb
      · exact .inl hbS
      · obtain ⟨S, hS, hb⟩ := List.mem_flatten.1 hb
        rcases mem_splice hS with h | h
        · exact .inl (by rw [hSe]; exact List.mem_cons_of_mem _ (List.mem_flatten.2 ⟨S, h, hb⟩))
        · exact .inr (hNm b (List.mem_flatten.2 ⟨S, h, hb⟩))
    · simp only [List.nodup_cons]
      refine ⟨fun hb => ?_, splice_flatten_nodup hnd0.2 hNn fun b hb hb' => hSSid b (hNm b hb') (by rw [hSe]; exact List.mem_cons_of_mem _ hb)⟩
      obtain ⟨S, hS, hb⟩ := List.mem_flatten.1 hb
      rcases mem_splice hS with h | h
      · exact hnd0.1 (List.mem_flatten.2 ⟨S, h, hb⟩)
      · exact hSSid g (hNm g (List.mem_flatten.2 ⟨S, h, hb⟩)) hbS
    · subst hC'
      have hCid : (rowC C id ⟨(C id).v, g :: (splice Ss p Ns).flatten⟩ is) id = ⟨(C id).v, g :: (splice Ss p Ns).flatten⟩ := by
        show (rowC C id ⟨(C id).v, g :: (splice Ss p Ns).flatten⟩ is).cb id = _
        simp [rowC]
      simp only [BRep, if_true]
      rw [hCid]
      refine ⟨hye, he0, te, splice vals p news, splice Ss p Ns, own', ?_, by rw [hv]; simp [Value.ownBlock], fun j d u S h1 h2 h3 => ?_⟩
      · rw [splice_length (by simp only [p]; omega), splice_length (by simp only [p]; omega)]; exact hSl
      · rw [hflat] at h1
        rw [splice_at (by omega)] at h1
        rw [splice_at (by simp only [p]; omega)] at h2 h3
        by_cases hj : p ≤ j ∧ j < p + news.length
        · rw [if_pos (by simp only [p] at hj; omega)] at h1
          rw [if_pos hj] at h2
          rw [if_pos (by omega)] at h3
          exact (hNr (j - p) d u S h1 h2 h3).keep fun b' hb' => setRow_other w g b' _ (fun e => by
            subst e
            exact hSSid b' (hNm b' (List.mem_flatten.2 ⟨S, List.mem_of_getElem? h3, hb'⟩)) hbS)
        · rw [if_neg (by simp only [p] at hj; omega)] at h1
          rw [if_neg hj] at h2
          rw [if_neg (by omega)] at h3
          exact (hSr j d u S h1 h2 h3).keep fun b' hb' => setRow_other w g b' _ (fun e => by
            subst e
            exact hnd0.1 (List.mem_flatten.2 ⟨S, List.mem_of_getElem? h3, hb'⟩))
  | false =>
    obtain ⟨hSe, hSr⟩ := hD rfl
    simp only [Cont, Bool.false_eq_true, if_false] at hcont
    refine hfin ⟨(C id).v, [g]⟩ rfl (fun b hb => by simp at hb; subst hb; exact .inl hbS) (by simp) (fun hp' C' hC' hhp E => ?_)
    subst hC'
    have hCid : (rowC C id ⟨(C id).v, [g]⟩ is) id = ⟨(C id).v, [g]⟩ := by
      show (rowC C id ⟨(C id).v, [g]⟩ is).cb id = _
      simp [rowC]
    simp only [BRep, Bool.false_eq_true, if_false]
    rw [hCid]
    have hstab : ∀ b, Fset σ.hp C w is b → Stab hp' (rowC C id ⟨(C id).v, [g]⟩ is) (w.setRow g arr) b ∧ (w.setRow g arr).heap[b]? = w.heap[b]? := fun b hb => by
      rcases hb with hb | hb
      · exact ⟨(E.stab b hb).2, (E.stab b hb).1⟩
      · have hbg : b ≠ g := fun e => hSSid b hb (e ▸ hbS)
        obtain ⟨q, hq, hqb⟩ := List.mem_flatMap.1 hb
        refine ⟨⟨by have := hSSlt b hb; simpa using this, hc.heap.inU q (hane q hq) b hqb, fun j hj hbj => ?_⟩, setRow_other w g b _ hbg⟩
        have hcj : (rowC C id ⟨(C id).v, [g]⟩ is).cb j = if j = id then ⟨(C id).v, [g]⟩ else if j ∈ is then ⟨(C j).v, []⟩ else C j := rfl
        rw [hcj] at hbj
        by_cases h1 : j = id
        · subst h1; simp at hbj; exact hbg hbj
        · rw [if_neg h1] at hbj
          by_cases h2 : j ∈ is
          · rw [if_pos h2] at hbj; simp at hbj
          · rw [if_neg h2] at hbj
            have hjo : hp' j = σ.hp j := by
              rw [hhp]
              have := writes_kills is (upd σ.hp id (some (.row false (ver + 1) e (xs.set i (splice el off ds))))) j
              simp only [writes, List.foldl_cons] at this ⊢
              rw [this, if_neg h2, upd_ne _ _ h1]
            exact hc.heap.apart q j (fun e => h2 (e ▸ hq)) (hane q hq) (by rw [← hjo]; exact hj) b hqb hbj
    refine ⟨hye, he0, by rw [hv]; simp [Value.ownBlock], te, splice vals p news, own', fun j d u h1 h2 => ?_⟩
    rw [hflat] at h1
    rw [splice_at (by omega)] at h1
    rw [splice_at (by simp only [p]; omega)] at h2
    by_cases hj : p ≤ j ∧ j < p + news.length
    · rw [if_pos (by simp only [p] at hj; omega)] at h1
      rw [if_pos hj] at h2
      exact (hcont (j - p) d u h1 h2).mono hstab
    · rw [if_neg (by simp only [p] at hj; omega)] at h1
      rw [if_neg hj] at h2
      exact (hSr j d u h1 h2).mono fun b hb => hstab b (.inl hb)

/-! ### By hand, in walks -/
def setsK {β : Type} : Hl → List (Nat × Blk) → (Hl → β) → β
  | h, [], k => k h
  | h, p :: ws, k => match p with
    | (i, b) => setK h i (some b) fun h' => setsK h' ws k
theorem setsK_some : ∀ {ws : List (Nat × Blk)} {h h' : Hl}, setsK h ws some = some h' → (∀ p ∈ ws, p.1 < h.length) → writes (hpL h) ws = hpL h'
  | [], h, h', e, _ => by simp [setsK] at e; subst e; rfl
  | p :: ws, h, h', e, hl => by
    simp only [setsK, setK_eq] at e
    have h1 := hl p (by simp)
    have := setsK_some e (fun q hq => by simpa using hl q (by simp [hq]))
    rw [← this]
    simp only [writes, List.foldl_cons]
    rw [hpL_set h _ h1]

section
variable {P : Program} {F : Ty} [hF : TyF P F] {V nt : Nat} {Q : Exit → St → Prop} {k : List Kf} {l : Tm} {h h' : Hl} {os : Array Oper} {o : Oper} {r : List Oper} {d : Tmp}

/-- The address of an element of a row. -/
theorem goRowAt {t et : TypeId} {x i : Operand} {id len ver e : Nat} {fl : Bool} {xs : List (List D)} {kk : IntKind} {n : Int}
    (hd : o.dst = some d) (hw : wantedA os o ⟨nt, tmA l, hpL h⟩ = some true) (ho : o.op = .indexAddr t x i) (hx : (St.mk nt (tmA l) (hpL h)).ev x = .row id len) (hi : (St.mk nt (tmA l) (hpL h)).ev i = .int kk n)
    (hb : hpL h id = some (.row fl ver e xs)) (hlen : xs.length = len) (h0 : 0 ≤ n) (hn : n.toNat < len) (he : elOf F t = some et) (hs : szOf F et = some e)
    (hg : AGo P V Q (.ops os r :: k) .normal ⟨nt, tmA ((d, .rptr id len n.toNat 0) :: l), hpL h⟩) : AGo P V Q (.ops os (o :: r) :: k) .normal ⟨nt, tmA l, hpL h⟩ := by
  have e' := hF.eq
  subst e'
  refine goOp hd hw (ok_indexAddr (v := .rptr id len n.toNat 0) ho ?_) rfl hg
  simp only [hx, hi, evIndexAddr, h0, if_true, hb, hlen, hn, he, hs, Option.bind_some, and_self]

theorem goStoreRow {t : TypeId} {x y : Operand} {id len i off ver e : Nat} {fl : Bool} {xs : List (List D)} {el ds : List D} {cs : List AV} {is : List Nat}
    (hd : o.dst = none) (hw : wantedA os o ⟨nt, tmA l, hpL h⟩ = some true) (ho : o.op = .store t x y) (hx : (St.mk nt (tmA l) (hpL h)).ev x = .rptr id len i off) (hi : hpL h id = some (.row fl ver e xs)) (hlen : xs.length = len)
    (hcs : avCells ((St.mk nt (tmA l) (hpL h)).ev y) = some cs) (hs : szOf F t = some cs.length) (hl : lows fl (hpL h) cs = some (ds, is)) (hn : is.Nodup) (hnot : id ∉ is) (hel : xs[i]? = some el) (hoff : off + cs.length ≤ e)
    (hk : setsK h ((id, .row fl (ver + 1) e (xs.set i (splice el off ds))) :: kills is) some = some h')
    (hg : AGo P V Q (.ops os r :: k) .normal ⟨nt, tmA l, hpL h'⟩) : AGo P V Q (.ops os (o :: r) :: k) .normal ⟨nt, tmA l, hpL h⟩ := by
  have e' := hF.eq
  subst e'
  refine goOp0 hd hw (ok_storeRow ho hx hi hlen hcs hs hl hn hnot hel hoff) (setsK_some hk fun p hp => ?_) hg
  rcases List.mem_cons.1 hp with rfl | hp
  · exact hpL_lt hi
  · simp only [kills, List.mem_map] at hp
    obtain ⟨j, hj, rfl⟩ := hp
    obtain ⟨_, _, _, _, hb⟩ := lows_alive hl j hj
    exact hpL_lt hb

/-- make([]T, n) -/
theorem goMake {t et : TypeId} {e bytes : Nat} {x y : Operand} {kk kk' : IntKind} {n : Int} {zc : List AV} {zd : List D} {N : Nat}
    (hd : o.dst = some d) (hw : wantedA os o ⟨nt, tmA l, hpL h⟩ = some true) (ho : o.op = .makeSlice t x y) (hx : (St.mk nt (tmA l) (hpL h)).ev x = .int kk n) (hy : (St.mk nt (tmA l) (hpL h)).ev y = .int kk' n)
    (h0 : 0 ≤ n) (hsize : n ≤ 1099511627776) (ht : elOf F t = some et) (hs : szOf F et = some e) (hb : byOf F et = some bytes) (hb' : bytes ≤ 128) (hz : zrOf F et = some zc) (hzl : zc.length = e) (he0 : 0 < e)
    (hzd : lows true (fun _ => none) zc = some (zd, [])) (hN : freshK h ids none some = some N) (hh : appK h (some (.row true 1 e (List.replicate n.toNat zd))) some = some h')
    (hg : AGo P V Q (.ops os r :: k) .normal ⟨nt, tmA ((d, .row N n.toNat) :: l), hpL h'⟩) : AGo P V Q (.ops os (o :: r) :: k) .normal ⟨nt, tmA l, hpL h⟩ := by
  have e' := hF.eq
  subst e'
  have hN' : N = h.length := by
    rw [ids_eq] at hN
    by_cases hl : h.length < 60
    · rw [freshK_eq h 60 0 _ _ hl] at hN; simp at hN; exact hN.symm
    · rw [freshK_none h 60 0 _ _ (by omega)] at hN; simp at hN
  subst hN'
  rw [appK_eq] at hh
  obtain rfl := Option.some.inj hh
  refine goOp hd hw (ok_makeSlice ho ht hs hb hz hzl he0 (hpL_fresh h) hx hy h0 hzd ?_ (by omega)) (hpL_new ..) hg
  have : bytes * n.toNat ≤ 128 * n.toNat := Nat.mul_le_mul_right _ hb'
  omega
end

end Go.Al
