/- The abstract logic, part 5: rows made, rows stored into, slices, lengths. -/
import Derived.Test.YtjdmlcpngddgaaaAlRow
set_option linter.unusedVariables false
set_option linter.unusedSimpArgs false
namespace Go.Al
open Go Go.RowKit

/-! ### Literals -/
def lowss (x : Bool) (hp : Hp) : List (List AV) → Option (List (List D) × List Nat)
  | [] => some ([], [])
  | a :: as => match lows x hp a, lowss x hp as with
    | some (d, i), some (ds, is) => some (d :: ds, i ++ is)
    | _, _ => none

theorem lows_append {x : Bool} {hp : Hp} : ∀ {as bs : List AV} {ds es : List D} {is js : List Nat}, lows x hp as = some (ds, is) → lows x hp bs = some (es, js) → lows x hp (as ++ bs) = some (ds ++ es, is ++ js)
  | [], bs, ds, es, is, js, h1, h2 => by simp [lows] at h1; obtain ⟨rfl, rfl⟩ := h1; simpa using h2
  | a :: as, bs, ds, es, is, js, h1, h2 => by
    simp only [lows] at h1
    split at h1
    · rename_i d i ds' is' h3 h4
      simp at h1
      obtain ⟨rfl, rfl⟩ := h1
      have := lows_append h4 h2
      simp [lows, h3, this]
    · simp at h1

theorem lowss_flat {x : Bool} {hp : Hp} : ∀ {as : List (List AV)} {ds : List (List D)} {is : List Nat}, lowss x hp as = some (ds, is) → lows x hp as.flatten = some (ds.flatten, is)
  | [], ds, is, h => by simp [lowss] at h; obtain ⟨rfl, rfl⟩ := h; rfl
  | a :: as, ds, is, h => by
    simp only [lowss] at h
    split at h
    · rename_i d i ds' is' h3 h4
      simp at h
      obtain ⟨rfl, rfl⟩ := h
      simpa using lows_append h3 (lowss_flat h4)
    · simp at h

theorem lows_length {x : Bool} {hp : Hp} : ∀ {as : List AV} {ds : List D} {is : List Nat}, lows x hp as = some (ds, is) → ds.length = as.length
  | [], ds, is, h => by simp [lows] at h; simp [h.1]
  | a :: as, ds, is, h => by
    simp only [lows] at h
    split at h
    · rename_i d i ds' is' h3 h4
      simp at h
      obtain ⟨rfl, rfl⟩ := h
      simp [lows_length h4]
    · simp at h

theorem lowss_length {x : Bool} {hp : Hp} {e : Nat} : ∀ {as : List (List AV)} {ds : List (List D)} {is : List Nat}, (∀ a ∈ as, a.length = e) → lowss x hp as = some (ds, is) → ds.length = as.length ∧ ∀ d ∈ ds, d.length = e
  | [], ds, is, _, h => by simp [lowss] at h; simp [h.1]
  | a :: as, ds, is, he, h => by
    simp only [lowss] at h
    split at h
    · rename_i d i ds' is' h3 h4
      simp at h
      obtain ⟨rfl, rfl⟩ := h
      obtain ⟨h5, h6⟩ := lowss_length (fun a ha => he a (List.mem_cons_of_mem _ ha)) h4
      refine ⟨by simp [h5], fun d' hd' => ?_⟩
      rcases List.mem_cons.1 hd' with rfl | hd'
      · rw [lows_length h3]; exact he a (by simp)
      · exact h6 d' hd'
    · simp at h

def cellss : List AV → Option (List (List AV))
  | [] => some []
  | a :: as => match avCells a, cellss as with
    | some c, some cs => some (c :: cs)
    | _, _ => none

theorem cellss_rep {w : World} {hp : Hp} {C : Co} : ∀ {as : List AV} {vs : List Value} {cs : List (List AV)}, VReps w hp C as vs → cellss as = some cs →
    cs.length = as.length ∧ VReps w hp C cs.flatten (vs.flatMap fun v => v.cells.toList) ∧ ∀ e, (∀ c ∈ cs, c.length = e) → ∀ v ∈ vs, v.cells.size = e
  | [], vs, cs, h, hc => by
    simp [VReps] at h; simp [cellss] at hc
    subst h hc
    exact ⟨rfl, by simp [VReps], by simp⟩
  | a :: as, vs, cs, h, hc => by
    simp only [VReps] at h
    obtain ⟨v, vs', rfl, h1, h2⟩ := h
    simp only [cellss] at hc
    split at hc
    · rename_i c cs' h3 h4
      obtain rfl := Option.some.inj hc
      obtain ⟨h5, h6, h7⟩ := cellss_rep h2 h4
      have h8 := (avCells_rep h1 h3).1
      refine ⟨by simp [h5], by simpa using h8.append h6, fun e he u hu => ?_⟩
      rcases List.mem_cons.1 hu with rfl | hu
      · have := h8.length
        rw [he c (by simp)] at this
        simpa using this.symm
      · exact h7 e (fun c hc => he c (List.mem_cons_of_mem _ hc)) u hu
    · simp at hc

theorem zip_range {α β : Type} (f : α → β) : ∀ (l : List (Nat × α)) (k : Nat), l.map (·.1) = List.range' k l.length → l.map (fun p => (p.1, f p.2)) = ((l.map fun p => f p.2).zipIdx k).map fun x => (x.2, x.1)
  | [], k, h => by simp
  | (i, a) :: l, k, h => by
    simp [List.range'_succ] at h
    obtain ⟨rfl, h⟩ := h
    have := zip_range f l (i + 1) h
    simp [this]

theorem ok_buildSlice {P : Program} {o : Oper} {σ : St} {N : Nat} {t et : TypeId} {n e : Nat} {parts : Array (Nat × Operand)} {x : Bool} {zc : List AV} {cs : List (List AV)} {ys : List (List D)} {ids : List Nat}
    (ho : o.op = .buildSlice t n parts) (ht : elOf (tyI P) t = some et) (hs : szOf (tyI P) et = some e) (hz : zrOf (tyI P) et = some zc) (h0 : 0 < e) (hN : σ.hp N = none)
    (hp : parts.toList.map (·.1) = List.range' 0 n) (hcs : cellss (parts.toList.map fun p => σ.ev p.2) = some cs) (hce : ∀ c ∈ cs, c.length = e) (hl : lowss x σ.hp cs = some (ys, ids)) (hnd : ids.Nodup) (hsmall : n * e ≤ 2 ^ 24) :
    OpOk P o σ ⟨.row N n, (N, .row x 1 e ys) :: kills ids⟩ := by
  intro C a w hc
  have hev := VReps.map_ev hc (parts.toList.map (·.2))
  simp only [List.map_map] at hev
  obtain ⟨k1, k2, k3⟩ := cellss_rep (w := w) (hp := σ.hp) (C := C) hev (by rw [← hcs]; rfl)
  obtain ⟨k4, k5⟩ := lowss_length hce hl
  have hpl : parts.toList.length = n := by have := congrArg List.length hp; simpa using this
  have hyn : ys.length = n := by rw [k4, k1]; simpa using hpl
  obtain ⟨c1, c2⟩ := cont_lows hc.heap k2 (lowss_flat hl) hnd
  generalize hvs : (parts.toList.map (a.eval ∘ fun x => x.2)) = vs at hev k2 k3 c1 c2
  have hvl : vs.length = n := by rw [← hvs]; simpa using hpl
  have hvs1 := k3 e hce
  obtain ⟨i, hi, hsi⟩ := Option.map_eq_some_iff.1 (szOf_info hs)
  obtain ⟨i0, z, hi0, hz, _⟩ := zrOf_some hz
  rw [hi] at hi0
  obtain rfl := Option.some.inj hi0
  have hcl : (vs.flatMap fun v => v.cells.toList).length = n * e := by
    rw [← k2.length, length_flatten hce, k1]
    simp only [List.length_map, hpl]
  have hrun : (execOp a.eval o).run P w = .ok (.value (.slice (some ⟨w.heap.size, 0, none⟩) n n)) (w.alloc (.cells (vs.flatMap fun v => v.cells.toList).toArray et)) := by
    by_cases hn0 : n = 0
    · subst hn0
      have hp0 : parts = #[] := by simpa using hpl
      have hv0 : vs = [] := List.eq_nil_of_length_eq_zero hvl
      subst hp0 hv0
      have hr0 : Array.range 0 = #[] := by simp
      simp [execOp, ho, Instr.buildSlice, underlying, elOf_run ht, szOf_run hs, Instr.fill, newRow, hr0]
    · have hfill := Great.fill_whole h0 vs ((Array.range (n * i.size)).map (z.cells[· % z.cells.size]!)) hvs1 (by rw [hvl, hsi]; simp)
      have hpos : ¬ n * i.size = 0 := by rw [hsi]; exact fun h => by rcases Nat.mul_eq_zero.1 h with h | h <;> omega
      have := run_buildSlice (P := P) w t et n (parts.map fun (i, x) => (i, a.eval x)) (vs.flatMap fun v => v.cells.toList).toArray i z (elOf_run ht) hi hz (by rw [hsi]; omega) hpos (by
        rw [hsi]
        rw [hsi] at hfill
        rw [← hfill]
        congr 1
        have := zip_range a.eval parts.toList 0 (by rw [hpl]; exact hp)
        rw [← hvs]
        simpa [Function.comp_def] using this)
      simp only [execOp, ho, Sem.run_bind, this, Result.andThen_ok]; rfl
  unfold Oper.wp
  rw [hrun, Oper.upon_value]
  obtain ⟨cb, hcv, e1, e2, e3⟩ := row_stand (w' := w.alloc (.cells (vs.flatMap fun v => v.cells.toList).toArray et)) (id := N) (ids := ids) (x := x) (ver := 0) (e := e) (xs := []) (ys := ys) (v' := .slice (some ⟨w.heap.size, 0, none⟩) n n) (te := 0) (te' := et) (vals := [])
    (news := vs.flatMap fun v => v.cells.toList) hc.heap (by simp only [hN, Option.isNone_none, if_true]; exact World.grownBy_alloc ..) (fun a => frozen_alloc w _ _ a) (fun hin => by obtain ⟨y, ver, e', xs', hh⟩ := lows_alive (lowss_flat hl) N hin; rw [hN] at hh; cases hh)
    (lows_alive (lowss_flat hl)) (.inl ⟨hN, rfl⟩) h0 k5 (fun h => absurd hN h) (fun _ => rfl)
    (by simpa [hyn] using World.ownsRow_lit (base := 0) (e := et) (size := e) w (vs.flatMap fun v => v.cells.toList).toArray n (Nat.zero_le _) (by simp only [maxLen]; have : n ≤ n * e := Nat.le_mul_of_pos_right _ h0; omega) (by simpa using hcl))
    (by rw [c1]) c2 (fun b hb => .inl (by simp [Value.ownBlock] at hb; omega)) (fun h => absurd hN h) 1 (by omega)
  refine ⟨_, hc.put o.dst e1 ?_ (by simpa using e3), by simpa using e1, by simpa using e2⟩
  have hnotin : N ∉ ids := fun hin => by obtain ⟨y, ver, e', xs', hh⟩ := lows_alive (lowss_flat hl) N hin; rw [hN] at hh; cases hh
  have hlk : writes σ.hp ((N, .row x 1 e ys) :: kills ids) N = some (.row x 1 e ys) := by
    have := writes_kills ids (upd σ.hp N (some (.row x 1 e ys))) N
    simp only [writes, List.foldl_cons] at this ⊢
    rw [this]; simp [hnotin]
  simp only [VRep, List.nil_append, hlk]
  exact ⟨⟨_, _, _, rfl⟩, by omega, fun _ => by simp only [rowC, if_true]; exact hcv.symm⟩


/-! ### make -/
theorem low_emp {x : Bool} {hp hp' : Hp} {a : AV} {d : D} (h : low x hp a = some (d, [])) : low x hp' a = some (d, []) := by
  cases a with
  | row id len =>
    simp only [low] at h
    split at h
    · split at h <;> simp at h
    · split at h <;> simp at h
    · simp at h
  | sl m xs => cases m <;> first | (simp [low] at h; done) | (simp only [low] at h ⊢; exact h)
  | _ => first | (simp [low] at h; done) | (simp only [low] at h ⊢; exact h)

theorem lows_emp {x : Bool} {hp hp' : Hp} : ∀ {as : List AV} {ds : List D}, lows x hp as = some (ds, []) → lows x hp' as = some (ds, [])
  | [], ds, h => by simpa [lows] using h
  | q :: qs, ds, h => by
    simp only [lows] at h ⊢
    split at h
    · rename_i d i1 ds i2 h1 h2
      simp at h
      obtain ⟨rfl, rfl, rfl⟩ := h
      rw [low_emp h1, lows_emp h2]; rfl
    · simp at h

theorem flatten_replicate_at {α : Type} (l : List α) (hl : 0 < l.length) : ∀ (n j : Nat), j < n * l.length → (List.replicate n l).flatten[j]? = l[j % l.length]?
  | 0, j, h => by omega
  | n + 1, j, h => by
    rw [List.replicate_succ, List.flatten_cons]
    by_cases hj : j < l.length
    · rw [List.getElem?_append_left hj, Nat.mod_eq_of_lt hj]
    · rw [List.getElem?_append_right (by omega), flatten_replicate_at l hl n (j - l.length) (by rw [Nat.add_mul] at h; omega)]
      congr 1
      have := Nat.sub_add_cancel (Nat.le_of_not_lt hj)
      conv => rhs; rw [← this]
      rw [Nat.add_mod_right]

theorem ok_makeSlice {P : Program} {o : Oper} {σ : St} {N : Nat} {t et : TypeId} {e bytes : Nat} {l c : Operand} {k k' : IntKind} {n : Int} {zc : List AV} {zd : List D}
    (ho : o.op = .makeSlice t l c) (ht : elOf (tyI P) t = some et) (hs : szOf (tyI P) et = some e) (hb : byOf (tyI P) et = some bytes) (hz : zrOf (tyI P) et = some zc) (hzl : zc.length = e) (h0 : 0 < e) (hN : σ.hp N = none)
    (hl : σ.ev l = .int k n) (hc' : σ.ev c = .int k' n) (hn : 0 ≤ n) (hzd : lows true (fun _ => none) zc = some (zd, [])) (hsize : bytes * n.toNat ≤ 140737488355328) (h63 : n ≤ 9223372036854775807) :
    OpOk P o σ ⟨.row N n.toNat, [(N, .row true 1 e (List.replicate n.toNat zd))]⟩ := by
  intro C a w hc
  have hlv := hc.ev l
  have hcv := hc.ev c
  rw [hl] at hlv; rw [hc'] at hcv
  simp only [VRep] at hlv hcv
  obtain ⟨i, hi, hsi⟩ := Option.map_eq_some_iff.1 (szOf_info hs)
  obtain ⟨i', hi', hbi⟩ := Option.map_eq_some_iff.1 (byOf_info hb)
  rw [hi] at hi'
  obtain rfl := Option.some.inj hi'
  have hz' := hz
  obtain ⟨i0, z, hi0, hz, hzc⟩ := zrOf_some hz
  rw [hi] at hi0
  obtain rfl := Option.some.inj hi0
  have hzsz : z.cells.size = e := by rw [← hzl, hzc]; simp
  have hnn : ((n.toNat : Nat) : Int) = n := by omega
  obtain ⟨w', hr, own, hg, hfz⟩ : ∃ w', (Instr.makeSlice t (.int k (n.toNat : Int)) (.int k' (n.toNat : Int))).run P w = .ok (.slice (some ⟨w.heap.size, 0, none⟩) n.toNat n.toNat) w' ∧
      w'.ownsRow 0 et e (.slice (some ⟨w.heap.size, 0, none⟩) n.toNat n.toNat) n.toNat (madeCells z.cells (n.toNat * e)).toList ∧ w.grownBy w' none ∧ ∀ a, w'.frozen? a = w.frozen? a := by
    have hb2 : (i.bytes : Int) * (n.toNat : Int) ≤ 281474976710656 := by
      have h : ((i.bytes * n.toNat : Nat) : Int) ≤ 281474976710656 := by rw [hbi]; omega
      rwa [Int.natCast_mul] at h
    have hr := run_make (P := P) w t et i z (elOf_run ht) hi hz k k' n.toNat n.toNat (by omega) (Int.le_refl _) hb2 (by omega)
    simp only [Int.toNat_natCast] at hr
    subst hsi
    exact ⟨_, hr, World.ownsRow_lit w _ n.toNat (Nat.zero_le _) (by simp only [maxLen]; omega) (size_madeCells _ _), World.grownBy_alloc w _ none, fun a => frozen_alloc w _ _ a⟩
  rw [hnn] at hr
  have hrun : (execOp a.eval o).run P w = .ok (.value (.slice (some ⟨w.heap.size, 0, none⟩) n.toNat n.toNat)) w' := by
    simp only [execOp, ho, hlv.1, hcv.1, Sem.run_bind, hr, Result.andThen_ok]; rfl
  unfold Oper.wp
  rw [hrun, Oper.upon_value]
  have hzdl := lows_length hzd
  have hyl : ∀ cs ∈ List.replicate n.toNat zd, cs.length = e := fun cs hcs => by rw [(List.mem_replicate.1 hcs).2, hzdl, hzl]
  have hzv : VReps w σ.hp C zc z.cells.toList := by rw [hzc]; exact VReps.consts ..
  have hzd' : lows true σ.hp zc = some (zd, []) := lows_emp hzd
  obtain ⟨z1, Sz, z2, z3, z4⟩ := lows_x hc.heap hzv hzd'
  have hcont : Cont true w σ.hp C [] (List.replicate n.toNat zd).flatten (madeCells z.cells (n.toNat * e)).toList := by
    simp only [Cont, if_true]
    obtain ⟨Ss, s1, s2, s3⟩ := none_Ss (madeCells z.cells (n.toNat * e)).toList.length
    refine ⟨Ss, s1, by simp [s2], by simp [s2], fun j d u S hd hu hS => ?_⟩
    obtain rfl := s3 j S hS
    have hj : j < n.toNat * e := by have := (List.getElem?_eq_some_iff.1 hu).1; simpa [size_madeCells] using this
    have hzlen : zd.length = e := by rw [hzdl, hzl]
    rw [flatten_replicate_at zd (by omega) _ _ (by rw [hzlen]; exact hj), hzlen] at hd
    have hm : j % e < z.cells.size := by rw [hzsz]; exact Nat.mod_lt _ h0
    have hu' : z.cells.toList[j % e]? = some u := by
      simp only [madeCells, Array.toList_map, List.getElem?_map, hzsz] at hu
      obtain ⟨q, hq, hu⟩ := Option.map_eq_some_iff.1 hu
      simp only [Array.toList_range] at hq
      rw [List.getElem?_range hj] at hq
      obtain rfl := Option.some.inj hq
      rw [← hu]
      simp [hm]
    have hSz : Sz[j % e]? = some (Sz[j % e]'(by rw [z2]; simpa using hm)) := List.getElem?_eq_getElem _
    have hx := z4 (j % e) d u _ hd hu' hSz
    have : Sz[j % e]'(by rw [z2]; simpa using hm) = [] := by
      have hf : ∀ b, b ∉ Sz[j % e]'(by rw [z2]; simpa using hm) := fun b hb => by
        have : b ∈ Sz.flatten := List.mem_flatten.2 ⟨_, List.getElem_mem _, hb⟩
        rw [z3] at this; simp [SS] at this
      exact List.eq_nil_iff_forall_not_mem.2 hf
    rw [this] at hx
    exact hx
  obtain ⟨cb, hcv', e1, e2, e3⟩ := row_stand (w' := w') (id := N) (ids := []) (x := true) (ver := 0) (e := e) (xs := []) (ys := List.replicate n.toNat zd) (v' := .slice (some ⟨w.heap.size, 0, none⟩) n.toNat n.toNat) (te := 0) (te' := et) (vals := [])
    (news := (madeCells z.cells (n.toNat * e)).toList) hc.heap (by simpa [hN] using hg) hfz (by simp) (by simp) (.inl ⟨hN, rfl⟩) h0 hyl (fun h => absurd hN h) (fun _ => rfl)
    (by simpa using own) (by simp [size_madeCells, length_flatten hyl]) hcont (fun b hb => .inl (by simp [Value.ownBlock] at hb; omega)) (fun h => absurd hN h) 1 (by omega)
  refine ⟨_, hc.put o.dst e1 ?_ (by simpa [kills] using e3), by simpa [kills] using e1, by simpa [kills] using e2⟩
  simp only [VRep, List.nil_append, kills, List.map_nil, writes, List.foldl_cons, List.foldl_nil, upd_same]
  exact ⟨⟨_, _, _, rfl⟩, by simp, fun _ => by simp only [rowC, if_true]; exact hcv'.symm⟩

/-! ### Lengths -/
def evLen (F : Ty) (hp : Hp) (t : TypeId) (x : AV) : Option AV :=
  match x with
  | .str s => if stOf F t = true then some (.int .i64 s.size) else none
  | .sl m xs => if live hp m = true ∧ (elOf F t).isSome = true then some (.int .i64 xs.length) else none
  | .row id len => match hp id with
    | some (.row _ _ _ xs) => if xs.length = len ∧ (elOf F t).isSome = true then some (.int .i64 len) else none
    | _ => none
  | .nil => if (elOf F t).isSome = true then some (.int .i64 0) else none
  | _ => none

theorem i64_nat {n : Nat} (h : n ≤ maxLen) : IntKind.i64.wrap (n : Int) = n := by
  rw [wrap_iff]
  simp only [maxLen] at h
  simp [IntKind.min, IntKind.max, IntKind.bits, IntKind.signed]
  omega

theorem ok_len {P : Program} {o : Oper} {σ : St} {x : Operand} {t : TypeId} {v : AV} (ho : o.op = .call { callee := .builtin .len, args := #[x], argTypes := #[t] }) (h : evLen (tyI P) σ.hp t (σ.ev x) = some v) : OpOk P o σ ⟨v, []⟩ := by
  refine opok_value fun C a w hc => ?_
  have hx := hc.ev x
  have hsl : ∀ (et : TypeId) (A : Option Addr) (n c : Nat), elOf (tyI P) t = some et → a.eval x = .slice A n c → (execOp a.eval o).run P w = .ok (.value (.int .i64 n)) w := by
    intro et A n c h1 h2
    simp [execOp, ho, resolve, invoke, builtin, h2, Builtin.len_, underlying, elOf_run h1, goInt]
  unfold evLen at h
  split at h
  · rename_i s he
    rw [he] at hx; simp only [VRep] at hx
    simp only [Option.ite_none_right_eq_some, Option.some.injEq] at h
    obtain ⟨h1, rfl⟩ := h
    refine ⟨.int .i64 s.size, ?_, by rw [VRep]; exact ⟨rfl, i64_nat hx.2⟩⟩
    simp [execOp, ho, resolve, invoke, builtin, hx.1, Builtin.len_, underlying, stOf_run h1, goInt]
  · rename_i m xs he
    rw [he] at hx; simp only [VRep] at hx
    simp only [Option.ite_none_right_eq_some, Option.some.injEq] at h
    obtain ⟨⟨h1, h2⟩, rfl⟩ := h
    obtain ⟨et, h2⟩ := Option.isSome_iff_exists.1 h2
    obtain ⟨F, hd, _⟩ := MF.live hx.2 h1
    generalize hv : a.eval x = V at hd
    cases hd with
    | sl vals he0 hc0 hm hvl hr ha => exact ⟨_, hsl et _ _ _ h2 hv, by rw [VRep]; exact ⟨rfl, i64_nat (by omega)⟩⟩
  · rename_i id len he
    rw [he] at hx
    split at h
    · rename_i xx ver e xs hi
      simp only [Option.ite_none_right_eq_some, Option.some.injEq] at h
      obtain ⟨⟨h1, h2⟩, rfl⟩ := h
      obtain ⟨et, h2⟩ := Option.isSome_iff_exists.1 h2
      simp only [VRep, hi] at hx
      have hv := hx.2.2 h1
      obtain ⟨_, _, te, vals, own, _⟩ := row_src hc.heap hi
      rcases own.2 with ⟨hv', hn⟩ | ⟨g, cap, cur, hv', _, _, h3, h4, _⟩
      · rw [hv'] at hv
        refine ⟨_, hsl et _ _ _ h2 hv, ?_⟩
        rw [VRep, ← h1, hn]; exact ⟨rfl, by decide⟩
      · rw [hv'] at hv
        refine ⟨_, hsl et _ _ _ h2 hv, ?_⟩
        rw [VRep, ← h1]; exact ⟨rfl, i64_nat (by omega)⟩
    · simp at h
  · rename_i he
    rw [he] at hx; simp only [VRep] at hx
    simp only [Option.ite_none_right_eq_some, Option.some.injEq] at h
    obtain ⟨h2, rfl⟩ := h
    obtain ⟨et, h2⟩ := Option.isSome_iff_exists.1 h2
    exact ⟨_, hsl et _ _ _ h2 hx, by rw [VRep]; exact ⟨rfl, by decide⟩⟩
  · simp at h

/-! ### min and max of two -/
theorem ok_max {P : Program} {o : Oper} {σ : St} {x y : Operand} {ts : Array TypeId} {k k' : IntKind} {m n : Int} (ho : o.op = .call { callee := .builtin .max, args := #[x, y], argTypes := ts }) (h1 : σ.ev x = .int k m) (h2 : σ.ev y = .int k' n) (h3 : k = k') :
    OpOk P o σ ⟨.int k (if n > m then n else m), []⟩ := by
  subst h3
  refine opok_value fun C a w hc => ?_
  have hx := hc.ev x
  have hy := hc.ev y
  rw [h1] at hx; rw [h2] at hy
  simp only [VRep] at hx hy
  refine ⟨.int k (if n > m then n else m), ?_, ?_⟩
  · have := run_max_int2 (P := P) w ts o.type k k m n
    simp [execOp, ho, resolve, invoke, builtin, hx.1, hy.1, this]
  · rw [VRep]; exact ⟨rfl, by split <;> simp [*]⟩
theorem ok_min {P : Program} {o : Oper} {σ : St} {x y : Operand} {ts : Array TypeId} {k k' : IntKind} {m n : Int} (ho : o.op = .call { callee := .builtin .min, args := #[x, y], argTypes := ts }) (h1 : σ.ev x = .int k m) (h2 : σ.ev y = .int k' n) (h3 : k = k') :
    OpOk P o σ ⟨.int k (if n < m then n else m), []⟩ := by
  subst h3
  refine opok_value fun C a w hc => ?_
  have hx := hc.ev x
  have hy := hc.ev y
  rw [h1] at hx; rw [h2] at hy
  simp only [VRep] at hx hy
  refine ⟨.int k (if n < m then n else m), ?_, ?_⟩
  · have := run_min_int2 (P := P) w ts o.type k k m n
    simp [execOp, ho, resolve, invoke, builtin, hx.1, hy.1, this]
  · rw [VRep]; exact ⟨rfl, by split <;> simp [*]⟩

end Go.Al
