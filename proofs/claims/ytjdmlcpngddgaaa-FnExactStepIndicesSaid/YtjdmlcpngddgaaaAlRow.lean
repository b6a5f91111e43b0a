/- The abstract logic, part 4: rows that the call owns. -/
import Derived.Test.YtjdmlcpngddgaaaAlMem
set_option linter.unusedVariables false
set_option linter.unusedSimpArgs false
namespace Go.Al
open Go Go.RowKit

/-! ### From abstract values to what lies in a row -/
/-- x: must all be owned? The second part: rows that are taken in. -/
def low (x : Bool) (hp : Hp) : AV → Option (D × List Nat)
  | .int k n => some (.int k n, [])
  | .bool b => some (.bool b, [])
  | .str s => some (.str s, [])
  | .nil => some (.sl [], [])
  | .sl .st xs => if x = true then none else some (.sl xs, [])
  | .row id len => match hp id with
    | some (.row true _ _ xs) => if xs.length = len then some (.sl xs, [id]) else none
    | some (.row false _ _ xs) => if xs.length = len ∧ x = false then some (.sl xs, [id]) else none
    | _ => none
  | _ => none

def lows (x : Bool) (hp : Hp) : List AV → Option (List D × List Nat)
  | [] => some ([], [])
  | a :: as => match low x hp a, lows x hp as with
    | some (d, i), some (ds, is) => some (d :: ds, i ++ is)
    | _, _ => none

def SS (C : Co) (ids : List Nat) : List Nat := ids.flatMap fun id => (C id).S

/-- What a non-owning reader sees, some rows being given up. -/
def Fset (hp : Hp) (C : Co) (w : World) (ids : List Nat) (b : Nat) : Prop := Stab hp C w b ∨ b ∈ SS C ids

theorem low_alive {x : Bool} {hp : Hp} {a : AV} {d : D} {ids : List Nat} (h : low x hp a = some (d, ids)) : ∀ id ∈ ids, ∃ y ver e xs, hp id = some (.row y ver e xs) := by
  unfold low at h
  split at h
  · simp at h; intro id hid; simp [h.2] at hid
  · simp at h; intro id hid; simp [h.2] at hid
  · simp at h; intro id hid; simp [h.2] at hid
  · simp at h; intro id hid; simp [h.2] at hid
  · split at h
    · simp at h
    · simp at h; intro id hid; simp [h.2] at hid
  · split at h
    · rename_i hi; split at h
      · simp at h; intro id hid; rw [← h.2] at hid; simp at hid; subst hid; exact ⟨_, _, _, _, hi⟩
      · simp at h
    · rename_i hi; split at h
      · simp at h; intro id hid; rw [← h.2] at hid; simp at hid; subst hid; exact ⟨_, _, _, _, hi⟩
      · simp at h
    · simp at h
  · simp at h

theorem lows_alive {x : Bool} {hp : Hp} : ∀ {as : List AV} {ds : List D} {ids : List Nat}, lows x hp as = some (ds, ids) → ∀ id ∈ ids, ∃ y ver e xs, hp id = some (.row y ver e xs)
  | [], ds, ids, h => by simp [lows] at h; simp [h.2]
  | a :: as, ds, ids, h => by
    simp only [lows] at h
    split at h
    · rename_i d i ds' is h1 h2
      simp at h
      obtain ⟨rfl, rfl⟩ := h
      intro id hid
      rcases List.mem_append.1 hid with hid | hid
      · exact low_alive h1 id hid
      · exact lows_alive h2 id hid
    · simp at h

theorem lows_one {x : Bool} {w : World} {hp : Hp} {C : Co} : ∀ {as : List AV} {vs : List Value} {ds : List D} {ids : List Nat}, VReps w hp C as vs → lows x hp as = some (ds, ids) → ∀ u ∈ vs, u.oneCell' = true
  | [], vs, ds, ids, hv, h => by simp [VReps] at hv; simp [hv]
  | a :: as, vs, ds, ids, hv, h => by
    simp only [VReps] at hv
    obtain ⟨v, vs', rfl, h1, h2⟩ := hv
    simp only [lows] at h
    split at h
    · rename_i d i ds' is h3 h4
      intro u hu
      rcases List.mem_cons.1 hu with rfl | hu
      · refine (av1_one h1 ?_).1
        cases a <;> simp [low] at h3 <;> rfl
      · exact lows_one h2 h4 u hu
    · simp at h

theorem low_x {w : World} {hp : Hp} {C : Co} (H : HConc w hp C) {a : AV} {v : Value} {d : D} {ids : List Nat} (hv : VRep w hp C a v) (h : low true hp a = some (d, ids)) : XRep w d v (SS C ids) := by
  unfold low at h
  split at h
  · simp at h; obtain ⟨rfl, rfl⟩ := h; simp only [VRep] at hv; obtain ⟨rfl, h2⟩ := hv; exact .int h2
  · simp at h; obtain ⟨rfl, rfl⟩ := h; simp only [VRep] at hv; subst hv; exact .bool
  · simp at h; obtain ⟨rfl, rfl⟩ := h; simp only [VRep] at hv; obtain ⟨rfl, h2⟩ := hv; exact .str h2
  · simp at h; obtain ⟨rfl, rfl⟩ := h; simp only [VRep] at hv; subst hv
    have := XRep.sl (w := w) (e := 1) (xs := []) (v := .slice none 0 0) 0 [] [] (by simp) (by omega) (World.ownsRow_nil w 0 0 1) rfl (by simp)
    simpa [SS, Value.ownBlock] using this
  · simp at h
  · rename_i id len
    split at h
    · rename_i ver e xs hi
      simp only [Option.ite_none_right_eq_some, Option.some.injEq, Prod.mk.injEq] at h
      obtain ⟨h1, rfl, rfl⟩ := h
      simp only [VRep, hi] at hv
      rw [hv.2.2 h1]
      have hb := H.rep id _ hi
      simp only [BRep, if_true] at hb
      simpa [SS] using hb.rep
    · simp at h
    · simp at h
  · simp at h

theorem low_d {x : Bool} {w : World} {hp : Hp} {C : Co} (H : HConc w hp C) {a : AV} {v : Value} {d : D} {ids : List Nat} (hv : VRep w hp C a v) (h : low x hp a = some (d, ids)) : DRep w (Fset hp C w ids) d v := by
  unfold low at h
  split at h
  · simp at h; obtain ⟨rfl, rfl⟩ := h; simp only [VRep] at hv; obtain ⟨rfl, h2⟩ := hv; exact .int h2
  · simp at h; obtain ⟨rfl, rfl⟩ := h; simp only [VRep] at hv; subst hv; exact .bool
  · simp at h; obtain ⟨rfl, rfl⟩ := h; simp only [VRep] at hv; obtain ⟨rfl, h2⟩ := hv; exact .str h2
  · simp at h; obtain ⟨rfl, rfl⟩ := h; simp only [VRep] at hv; subst hv
    exact .sl (xs := []) (e := 1) [] (by simp) (by simp) (by simp) rfl (by simp) (by simp)
  · simp only [Option.ite_none_left_eq_some, Option.some.injEq, Prod.mk.injEq] at h
    obtain ⟨_, rfl, rfl⟩ := h
    simp only [VRep, MF] at hv
    exact hv.2.mono fun b hb => ⟨.inl hb, rfl⟩
  · rename_i id len
    split at h
    · rename_i ver e xs hi
      simp only [Option.ite_none_right_eq_some, Option.some.injEq, Prod.mk.injEq] at h
      obtain ⟨h1, rfl, rfl⟩ := h
      simp only [VRep, hi] at hv
      rw [hv.2.2 h1]
      have hb := H.rep id _ hi
      simp only [BRep, if_true] at hb
      exact hb.rep.read.mono fun b hb => ⟨.inr (by simpa [SS] using hb), rfl⟩
    · rename_i ver e xs hi
      simp only [Option.ite_none_right_eq_some, Option.some.injEq, Prod.mk.injEq] at h
      obtain ⟨⟨h1, _⟩, rfl, rfl⟩ := h
      simp only [VRep, hi] at hv
      rw [hv.2.2 h1]
      have hb := H.rep id _ hi
      simp only [BRep, Bool.false_eq_true, if_false] at hb
      obtain ⟨he, h0, hS, te, vals, own, hr⟩ := hb
      have hl := own.1
      have hf := length_flatten he
      generalize hV : (C id).v = V at own
      rcases own.2 with ⟨rfl, hn⟩ | ⟨g, cap, cur, rfl, hbb, hg, hnc, hcm, hcs, ht⟩
      · have hx : xs = [] := List.eq_nil_of_length_eq_zero hn
        subst hx
        exact .sl [] he (by simp) (by simp) rfl (by simp) (by simp)
      · refine .sl vals he hnc hcm (by omega) (fun j d u h1 h2 => (hr j d u h1 h2).mono fun b hb => ⟨.inl hb, rfl⟩) fun _ => ⟨⟨g, 0, none⟩, rfl, .inr ?_, fun j u hu => own.cells (g := g) rfl j u hu⟩
        simp [SS, hS, hV, Value.ownBlock]
    · simp at h
  · simp at h

theorem lows_x {w : World} {hp : Hp} {C : Co} (H : HConc w hp C) : ∀ {as : List AV} {vs : List Value} {ds : List D} {ids : List Nat}, VReps w hp C as vs → lows true hp as = some (ds, ids) →
    ds.length = vs.length ∧ ∃ Ss : List (List Nat), Ss.length = vs.length ∧ Ss.flatten = SS C ids ∧ ∀ (j : Nat) (d : D) (u : Value) (S : List Nat), ds[j]? = some d → vs[j]? = some u → Ss[j]? = some S → XRep w d u S
  | [], vs, ds, ids, hv, h => by
    simp [lows] at h; simp [VReps] at hv
    obtain ⟨rfl, rfl⟩ := h; subst hv
    exact ⟨rfl, [], rfl, rfl, by simp⟩
  | a :: as, vs, ds, ids, hv, h => by
    simp only [VReps] at hv
    obtain ⟨v, vs', rfl, h1, h2⟩ := hv
    simp only [lows] at h
    split at h
    · rename_i d i ds' is h3 h4
      simp at h
      obtain ⟨rfl, rfl⟩ := h
      obtain ⟨h5, Ss, h6, h7, h8⟩ := lows_x H h2 h4
      refine ⟨by simp [h5], SS C i :: Ss, by simp [h6], by simp [SS, h7], fun j d' u S hd hu hS => ?_⟩
      cases j with
      | zero => simp at hd hu hS; subst hd hu hS; exact low_x H h1 h3
      | succ j => exact h8 j d' u S (by simpa using hd) (by simpa using hu) (by simpa using hS)
    · simp at h

theorem lows_d {x : Bool} {w : World} {hp : Hp} {C : Co} (H : HConc w hp C) : ∀ {as : List AV} {vs : List Value} {ds : List D} {ids : List Nat}, VReps w hp C as vs → lows x hp as = some (ds, ids) →
    ds.length = vs.length ∧ ∀ (j : Nat) (d : D) (u : Value), ds[j]? = some d → vs[j]? = some u → DRep w (Fset hp C w ids) d u
  | [], vs, ds, ids, hv, h => by
    simp [lows] at h; simp [VReps] at hv
    obtain ⟨rfl, rfl⟩ := h; subst hv
    exact ⟨rfl, by simp⟩
  | a :: as, vs, ds, ids, hv, h => by
    simp only [VReps] at hv
    obtain ⟨v, vs', rfl, h1, h2⟩ := hv
    simp only [lows] at h
    split at h
    · rename_i d i ds' is h3 h4
      simp at h
      obtain ⟨rfl, rfl⟩ := h
      obtain ⟨h5, h8⟩ := lows_d H h2 h4
      refine ⟨by simp [h5], fun j d' u hd hu => ?_⟩
      cases j with
      | zero => simp at hd hu; subst hd hu; exact (low_d H h1 h3).mono fun b hb => ⟨hb.imp _root_.id fun h => by simp only [SS, List.flatMap_append, List.mem_append] at h ⊢; exact .inl h, rfl⟩
      | succ j => exact (h8 j d' u (by simpa using hd) (by simpa using hu)).mono fun b hb => ⟨hb.imp _root_.id fun h => by simp only [SS, List.flatMap_append, List.mem_append] at h ⊢; exact .inr h, rfl⟩
    · simp at h

/-! ### A row comes, or grows; others are taken in -/
def kills (ids : List Nat) : List (Nat × Blk) := ids.map fun i => (i, Blk.dead)
theorem writes_kills (ids : List Nat) (hp : Hp) (j : Nat) : writes hp (kills ids) j = if j ∈ ids then some .dead else hp j := by
  induction ids generalizing hp with
  | nil => simp [writes, kills]
  | cons i ids ih =>
    have := ih (upd hp i (some .dead))
    simp only [writes, kills, List.map_cons, List.foldl_cons] at this ⊢
    rw [this]
    by_cases h : j ∈ ids
    · simp [h]
    · by_cases hj : j = i
      · subst hj; simp [h]
      · simp [h, hj, upd_ne]

def rowC (C : Co) (id : Nat) (cb : CB) (ids : List Nat) : Co := { C with cb := fun i => if i = id then cb else if i ∈ ids then ⟨(C i).v, []⟩ else C i }

/-- The heap behind: row 'id' holds something new, the rows 'ids' have been taken in. -/
theorem row_conc {w w' : World} {hp : Hp} {C : Co} {id : Nat} (H : HConc w hp C) (hg : w.grownBy w' (if (hp id).isNone = true then none else (C id).v.ownBlock)) (hfz : ∀ a, w'.frozen? a = w.frozen? a) {ids : List Nat} {blk : Blk} {cb : CB}
    (hnotin : id ∉ ids) (hal : ∀ i ∈ ids, ∃ y ver e xs, hp i = some (.row y ver e xs))
    (hev : ∀ b0, hp id = some b0 → IdEv w w' (C id) b0 cb blk ∧ ∀ k, (C id).v.ownBlock = some k → k ∈ (C id).S)
    (hS : ∀ b ∈ cb.S, w.heap.size ≤ b ∨ (hp id ≠ none ∧ b ∈ (C id).S) ∨ b ∈ SS C ids) (hnd : cb.S.Nodup) :
    Ev w hp C w' (writes hp ((id, blk) :: kills ids)) (rowC C id cb ids) ∧ Fr w hp C w' (writes hp ((id, blk) :: kills ids)) (rowC C id cb ids) ∧
      (BRep w' (writes hp ((id, blk) :: kills ids)) (rowC C id cb ids) id blk → HConc w' (writes hp ((id, blk) :: kills ids)) (rowC C id cb ids)) := by
  have hlook : ∀ j, writes hp ((id, blk) :: kills ids) j = if j ∈ ids then some .dead else if j = id then some blk else hp j := by
    intro j
    have := writes_kills ids (upd hp id (some blk)) j
    simp only [writes, List.foldl_cons] at this ⊢
    rw [this]
    by_cases h : j ∈ ids
    · simp [h]
    · by_cases hj : j = id
      · subst hj; simp [h]
      · simp [h, hj, upd_ne]
  obtain ⟨e1, e2, e3⟩ := turn_conc (w' := w') (hp' := writes hp ((id, blk) :: kills ids)) (C' := rowC C id cb ids) (fun i => i = id ∨ i ∈ ids) H rfl hg.os hg.tape hg.output hg.size hfz
    (fun b hb hnot => hg.block b hb fun he => by
      split at he
      · simp at he
      · rename_i hne
        cases hi : hp id with
        | none => simp [hi] at hne
        | some b0 => exact hnot id (.inl rfl) (by simp [hi]) ((hev b0 hi).2 b he.symm))
    (fun i hT => by
      have h1 : i ≠ id := fun e => hT (.inl e)
      have h2 : i ∉ ids := fun e => hT (.inr e)
      exact ⟨by rw [hlook]; simp [h1, h2], by simp [rowC, h1, h2]⟩)
    (fun i b0 hT hi => by
      by_cases h2 : i ∈ ids
      · exact ⟨.dead, by rw [hlook]; simp [h2], by cases b0 <;> simp [IdEv]⟩
      · have h1 : i = id := hT.resolve_right h2
        subst h1
        exact ⟨blk, by rw [hlook]; simp [h2], by simp only [rowC, if_true]; exact (hev b0 hi).1⟩)
    (fun i hT hi b hb => by
      by_cases h1 : i = id
      · subst h1
        simp only [rowC, if_true] at hb
        rcases hS b hb with h | ⟨h, h'⟩ | h
        · exact .inl h
        · exact .inr ⟨i, .inl rfl, h, h'⟩
        · simp only [SS, List.mem_flatMap] at h
          obtain ⟨q, hq, hqb⟩ := h
          obtain ⟨y, ver, e, xs, hqi⟩ := hal q hq
          exact .inr ⟨q, .inr hq, by simp [hqi], hqb⟩
      · have h2 := hT.resolve_left h1
        simp [rowC, h1, h2] at hb)
    (fun i hT hi => by
      by_cases h1 : i = id
      · subst h1; simpa [rowC] using hnd
      · simp [rowC, h1, hT.resolve_left h1])
    (fun i j hij hTi hTj hi hj b hbi hbj => by
      by_cases h1 : i = id
      · have h2 : j ≠ id := fun e => hij (h1.trans e.symm)
        simp [rowC, h2, hTj.resolve_left h2] at hbj
      · simp [rowC, h1, hTi.resolve_left h1] at hbi)
  refine ⟨e1, e2, fun hr => e3 fun i b0 hT hi => ?_⟩
  rw [hlook] at hi
  by_cases h2 : i ∈ ids
  · simp [h2] at hi
    subst hi
    have h1 : i ≠ id := fun e => hnotin (e ▸ h2)
    simp [BRep, rowC, h1, h2]
  · have h1 : i = id := hT.resolve_right h2
    subst h1
    simp [h2] at hi
    subst hi
    exact hr

theorem SS_nodup {w : World} {hp : Hp} {C : Co} (H : HConc w hp C) : ∀ {ids : List Nat}, ids.Nodup → (∀ i ∈ ids, hp i ≠ none) → (SS C ids).Nodup
  | [], _, _ => by simp [SS]
  | i :: ids, hn, ha => by
    have h1 := List.nodup_cons.1 hn
    have h2 := SS_nodup H h1.2 fun j hj => ha j (List.mem_cons_of_mem _ hj)
    simp only [SS, List.flatMap_cons] at h2 ⊢
    refine List.nodup_append.2 ⟨H.nodup i (ha i (by simp)), h2, fun b hb b' hb' => ?_⟩
    rintro rfl
    obtain ⟨j, hj, hjb⟩ := List.mem_flatMap.1 hb'
    exact H.apart i j (fun e => h1.1 (e ▸ hj)) (ha i (by simp)) (ha j (List.mem_cons_of_mem _ hj)) b hb hjb


/-- New content, fit for a row of the kind x; the rows 'ids' are given up for it. -/
def Cont (x : Bool) (w : World) (hp : Hp) (C : Co) (ids : List Nat) (ds : List D) (news : List Value) : Prop :=
  if x = true then ∃ Ss : List (List Nat), Ss.length = news.length ∧ Ss.flatten.Nodup ∧ (∀ b ∈ Ss.flatten, b ∈ SS C ids) ∧ ∀ (j : Nat) (d : D) (u : Value) (S : List Nat), ds[j]? = some d → news[j]? = some u → Ss[j]? = some S → XRep w d u S
  else ∀ (j : Nat) (d : D) (u : Value), ds[j]? = some d → news[j]? = some u → DRep w (Fset hp C w ids) d u

theorem cont_lows {x : Bool} {w : World} {hp : Hp} {C : Co} (H : HConc w hp C) {as : List AV} {vs : List Value} {ds : List D} {ids : List Nat} (hv : VReps w hp C as vs) (h : lows x hp as = some (ds, ids)) (hn : ids.Nodup) :
    ds.length = vs.length ∧ Cont x w hp C ids ds vs := by
  cases x with
  | true =>
    obtain ⟨h1, Ss, h2, h3, h4⟩ := lows_x H hv h
    refine ⟨h1, ?_⟩
    simp only [Cont, if_true]
    refine ⟨Ss, h2, ?_, fun b hb => by rw [← h3]; exact hb, h4⟩
    rw [h3]
    exact SS_nodup H hn fun i hi => by obtain ⟨y, ver, e, xs, hh⟩ := lows_alive h i hi; simp [hh]
  | false =>
    obtain ⟨h1, h2⟩ := lows_d H hv h
    exact ⟨h1, by simpa only [Cont, Bool.false_eq_true, if_false] using h2⟩

/-- THE NEW ROW STANDS. 'old': what the row held before (nothing, if it is new). -/
theorem row_stand {w w' : World} {hp : Hp} {C : Co} (H : HConc w hp C) {id : Nat} {ids : List Nat} {x : Bool} {ver e : Nat} {xs ys : List (List D)} {v' : Value} {te te' : TypeId} {vals news : List Value}
    (hg : w.grownBy w' (if (hp id).isNone = true then none else (C id).v.ownBlock)) (hfz : ∀ a, w'.frozen? a = w.frozen? a) (hnotin : id ∉ ids) (hal : ∀ i ∈ ids, ∃ y ver e xs, hp i = some (.row y ver e xs))
    (hold : (hp id = none ∧ xs = []) ∨ hp id = some (.row x ver e xs)) (h0 : 0 < e) (hye : ∀ cs ∈ ys, cs.length = e) (hvl : hp id ≠ none → w.ownsRow 0 te e (C id).v xs.length vals) (hvn : hp id = none → vals = [])
    (own : w'.ownsRow 0 te' e v' (xs ++ ys).length (vals ++ news)) (hnl : news.length = ys.flatten.length) (hcont : Cont x w hp C ids ys.flatten news)
    (hblk : ∀ b, v'.ownBlock = some b → w.heap.size ≤ b ∨ (hp id ≠ none ∧ (C id).v.ownBlock = some b)) (hsame : hp id ≠ none → ys = [] → v' = (C id).v) (ver' : Nat) (hver : ver < ver') :
    ∃ cb : CB, cb.v = v' ∧ Ev w hp C w' (writes hp ((id, .row x ver' e (xs ++ ys)) :: kills ids)) (rowC C id cb ids) ∧ Fr w hp C w' (writes hp ((id, .row x ver' e (xs ++ ys)) :: kills ids)) (rowC C id cb ids) ∧
      HConc w' (writes hp ((id, .row x ver' e (xs ++ ys)) :: kills ids)) (rowC C id cb ids) := by
  have hidne : ∀ i ∈ ids, i ≠ id := fun i hi e => hnotin (e ▸ hi)
  have hane : ∀ i ∈ ids, hp i ≠ none := fun i hi => by obtain ⟨y, ver, e, xs, hh⟩ := hal i hi; simp [hh]
  have hSSlt : ∀ b ∈ SS C ids, b < w.heap.size := fun b hb => by
    obtain ⟨q, hq, hqb⟩ := List.mem_flatMap.1 hb
    exact H.lt (hane q hq) b hqb
  -- what the row's own block is
  have hownS : ∀ k, hp id ≠ none → (C id).v.ownBlock = some k → k ∈ (C id).S := by
    intro k hne hk
    rcases hold with ⟨h, _⟩ | h
    · exact absurd h hne
    · have hb := H.rep id _ h
      simp only [BRep] at hb
      split at hb
      · obtain ⟨_, _, te, vals, Ss, _, _, hS, _⟩ := hb; rw [hS, hk]; simp
      · obtain ⟨_, _, hS, _⟩ := hb; rw [hS, hk]; simp
  have hSSkeep : ∀ b ∈ SS C ids, w'.heap[b]? = w.heap[b]? := by
    intro b hb
    refine hg.block b (hSSlt b hb) fun he => ?_
    split at he
    · simp at he
    · rename_i hne
      have hne' : hp id ≠ none := by simpa using hne
      obtain ⟨q, hq, hqb⟩ := List.mem_flatMap.1 hb
      exact H.apart id q (fun e => hidne q hq e.symm) hne' (hane q hq) b (hownS b hne' he.symm) hqb
  have hev : ∀ (S : List Nat) (b0 : Blk), hp id = some b0 → IdEv w w' (C id) b0 ⟨v', S⟩ (.row x ver' e (xs ++ ys)) ∧ ∀ k, (C id).v.ownBlock = some k → k ∈ (C id).S := by
    intro S b0 hb0
    have hne : hp id ≠ none := by simp [hb0]
    refine ⟨?_, fun k hk => hownS k hne hk⟩
    rcases hold with ⟨h, _⟩ | h
    · exact absurd h hne
    · rw [hb0] at h
      obtain rfl := Option.some.inj h
      refine ⟨rfl, by simp, fun hl => hsame hne ?_, by omega, fun hv => by omega⟩
      simp at hl
      exact hl
  have hown : ∀ b, v'.ownBlock = some b → w.heap.size ≤ b ∨ (hp id ≠ none ∧ b ∈ (C id).S) := fun b hb => (hblk b hb).imp _root_.id fun ⟨h1, h2⟩ => ⟨h1, hownS b h1 h2⟩
  have hlk : writes hp ((id, .row x ver' e (xs ++ ys)) :: kills ids) id = some (.row x ver' e (xs ++ ys)) := by
    have := writes_kills ids (upd hp id (some (.row x ver' e (xs ++ ys)))) id
    simp only [writes, List.foldl_cons] at this ⊢
    rw [this]; simp [hnotin]
  cases x with
  | true =>
    simp only [Cont, if_true] at hcont
    obtain ⟨Sn, hSn1, hSn2, hSn3, hSn4⟩ := hcont
    -- the old nested rows
    obtain ⟨So, hSo1, hSo2, hSo3, hxe⟩ : ∃ So : List (List Nat), So.length = vals.length ∧ (∀ b ∈ So.flatten, hp id ≠ none ∧ b ∈ (C id).S ∧ (C id).v.ownBlock ≠ some b) ∧ (So.flatten.Nodup ∧
        ∀ (j : Nat) (d : D) (u : Value) (S : List Nat), xs.flatten[j]? = some d → vals[j]? = some u → So[j]? = some S → XRep w d u S) ∧ ∀ cs ∈ xs, cs.length = e := by
      rcases hold with ⟨h, rfl⟩ | h
      · exact ⟨[], by simp [hvn h], by simp, ⟨by simp, by simp⟩, by simp⟩
      · have hne : hp id ≠ none := by simp [h]
        have hb := H.rep id _ h
        have hnd := H.nodup id hne
        simp only [BRep, if_true] at hb
        obtain ⟨hxe, _, te2, vals2, So, own2, hl2, hS2, hr2⟩ := hb
        have hv2 : vals2 = vals := by
          have own1 := hvl hne
          rcases own1.2 with ⟨e1, n1⟩ | ⟨g, cap, cur, e1, _, hg1, _, _, _, ht1⟩
          · rcases own2.2 with ⟨_, n2⟩ | ⟨g, cap, cur, e2, _⟩
            · have a1 := own1.1; have a2 := own2.1
              rw [n1] at a1 a2
              simp at a1 a2
              rw [a1, a2]
            · rw [e1] at e2; simp at e2
          · rcases own2.2 with ⟨e2, _⟩ | ⟨g', cap', cur', e2, _, hg2, _, _, _, ht2⟩
            · rw [e1] at e2; simp at e2
            · rw [e1] at e2
              simp at e2
              obtain ⟨rfl, rfl⟩ := e2
              rw [hg1] at hg2
              simp at hg2
              obtain ⟨rfl, _⟩ := hg2
              rw [← ht1, ← ht2]
        subst hv2
        rw [hS2] at hnd
        obtain ⟨hn1, hn2, hn3⟩ := List.nodup_append.1 hnd
        refine ⟨So, hl2, fun b hb => ⟨hne, by rw [hS2]; exact List.mem_append_right _ hb, fun hk => hn3 b (by simp [hk]) b hb rfl⟩, ⟨hn2, hr2⟩, hxe⟩
    obtain ⟨hSo3, hSo4⟩ := hSo3
    have hall : ∀ cs ∈ xs ++ ys, cs.length = e := fun cs hcs => (List.mem_append.1 hcs).elim (hxe cs) (hye cs)
    have hfl := length_flatten hxe
    have hvlen : vals.length = xs.flatten.length := by
      rcases hold with ⟨h, rfl⟩ | h
      · simp [hvn h]
      · rw [(hvl (by simp [h])).1, hfl]
    have hoold : ∀ b ∈ So.flatten, w'.heap[b]? = w.heap[b]? := by
      intro b hb
      obtain ⟨h1, h2, h3⟩ := hSo2 b hb
      refine hg.block b (H.lt h1 b h2) fun he => ?_
      split at he
      · simp at he
      · exact h3 he.symm
    have hS : ∀ b ∈ v'.ownBlock.toList ++ (So ++ Sn).flatten, w.heap.size ≤ b ∨ (hp id ≠ none ∧ b ∈ (C id).S) ∨ b ∈ SS C ids := by
      intro b hb
      rcases List.mem_append.1 hb with hb | hb
      · have hb' : v'.ownBlock = some b := by
          cases hv : v'.ownBlock with
          | none => simp [hv] at hb
          | some k => simp [hv] at hb; rw [hb]
        exact (hown b hb').imp _root_.id .inl
      · rw [List.flatten_append] at hb
        rcases List.mem_append.1 hb with hb | hb
        · exact .inr (.inl ⟨(hSo2 b hb).1, (hSo2 b hb).2.1⟩)
        · exact .inr (.inr (hSn3 b hb))
    have hdj : ∀ b ∈ So.flatten, b ∉ SS C ids := fun b hb hb' => by
      obtain ⟨h1, h2, _⟩ := hSo2 b hb
      obtain ⟨q, hq, hqb⟩ := List.mem_flatMap.1 hb'
      exact H.apart id q (fun e => hidne q hq e.symm) h1 (hane q hq) b h2 hqb
    have hnd : (v'.ownBlock.toList ++ (So ++ Sn).flatten).Nodup := by
      rw [List.flatten_append]
      refine List.nodup_append.2 ⟨by cases v'.ownBlock <;> simp, List.nodup_append.2 ⟨hSo3, hSn2, fun b hb b' hb' e => hdj b hb (by subst e; exact hSn3 b hb')⟩, fun b hb b' hb' => ?_⟩
      rintro rfl
      have hbo : v'.ownBlock = some b := by
        cases hv : v'.ownBlock with
        | none => simp [hv] at hb
        | some k => simp [hv] at hb; rw [hb]
      rcases List.mem_append.1 hb' with hb' | hb'
      · obtain ⟨h1, h2, h3⟩ := hSo2 b hb'
        rcases hblk b hbo with h | ⟨_, h⟩
        · have := H.lt h1 b h2; omega
        · exact h3 h
      · have := hSn3 b hb'
        rcases hown b hbo with h | ⟨h1, h2⟩
        · have := hSSlt b this; omega
        · obtain ⟨q, hq, hqb⟩ := List.mem_flatMap.1 this
          exact H.apart id q (fun e => hidne q hq e.symm) h1 (hane q hq) b h2 hqb
    obtain ⟨e1, e2, e3⟩ := row_conc (w' := w') (blk := .row true ver' e (xs ++ ys)) (cb := ⟨v', v'.ownBlock.toList ++ (So ++ Sn).flatten⟩) H hg hfz hnotin hal (hev _) hS hnd
    refine ⟨_, rfl, e1, e2, e3 ?_⟩
    simp only [BRep, if_true, rowC]
    refine ⟨hall, h0, te', vals ++ news, So ++ Sn, own, by simp [hSo1, hSn1], rfl, fun j d u S hd hu hSj => ?_⟩
    rw [List.flatten_append] at hd
    by_cases hj : j < vals.length
    · rw [List.getElem?_append_left (by omega)] at hd hu hSj
      exact (hSo4 j d u S hd hu hSj).keep fun b hb => hoold b (List.mem_flatten.2 ⟨S, List.mem_of_getElem? hSj, hb⟩)
    · rw [List.getElem?_append_right (by omega)] at hd hu hSj
      rw [← hvlen] at hd
      rw [hSo1] at hSj
      exact (hSn4 _ d u S hd hu hSj).keep fun b hb => hSSkeep b (hSn3 b (List.mem_flatten.2 ⟨S, List.mem_of_getElem? hSj, hb⟩))
  | false =>
    simp only [Cont, Bool.false_eq_true, if_false] at hcont
    obtain ⟨e1, e2, e3⟩ := row_conc (w' := w') (blk := .row false ver' e (xs ++ ys)) (cb := ⟨v', v'.ownBlock.toList⟩) H hg hfz hnotin hal (hev _) (fun b hb => by
        have hbo : v'.ownBlock = some b := by
          cases hv : v'.ownBlock with
          | none => simp [hv] at hb
          | some k => simp [hv] at hb; rw [hb]
        exact (hown b hbo).imp _root_.id .inl) (by cases v'.ownBlock <;> simp)
    have hxs : (∀ cs ∈ xs, cs.length = e) ∧ ∀ (j : Nat) (d : D) (u : Value), xs.flatten[j]? = some d → vals[j]? = some u → DRep w (Stab hp C w) d u := by
      rcases hold with ⟨h, rfl⟩ | h
      · exact ⟨by simp, by simp⟩
      · have hne : hp id ≠ none := by simp [h]
        have hb := H.rep id _ h
        simp only [BRep, Bool.false_eq_true, if_false] at hb
        obtain ⟨hxe, _, _, te2, vals2, own2, hr2⟩ := hb
        have hv2 : vals2 = vals := by
          have own1 := hvl hne
          rcases own1.2 with ⟨e1, n1⟩ | ⟨g, cap, cur, e1, _, hg1, _, _, _, ht1⟩
          · rcases own2.2 with ⟨_, n2⟩ | ⟨g, cap, cur, e2, _⟩
            · have a1 := own1.1; have a2 := own2.1
              rw [n1] at a1 a2
              simp at a1 a2
              rw [a1, a2]
            · rw [e1] at e2; simp at e2
          · rcases own2.2 with ⟨e2, _⟩ | ⟨g', cap', cur', e2, _, hg2, _, _, _, ht2⟩
            · rw [e1] at e2; simp at e2
            · rw [e1] at e2
              simp at e2
              obtain ⟨rfl, rfl⟩ := e2
              rw [hg1] at hg2
              simp at hg2
              obtain ⟨rfl, _⟩ := hg2
              rw [← ht1, ← ht2]
        subst hv2
        exact ⟨hxe, hr2⟩
    have hfl := length_flatten hxs.1
    have hvlen : vals.length = xs.flatten.length := by
      rcases hold with ⟨h, rfl⟩ | h
      · simp [hvn h]
      · rw [(hvl (by simp [h])).1, hfl]
    refine ⟨_, rfl, e1, e2, e3 ?_⟩
    simp only [BRep, Bool.false_eq_true, if_false, rowC]
    refine ⟨fun cs hcs => (List.mem_append.1 hcs).elim (hxs.1 cs) (hye cs), h0, rfl, te', vals ++ news, own, fun j d u hd hu => ?_⟩
    rw [List.flatten_append] at hd
    by_cases hj : j < vals.length
    · rw [List.getElem?_append_left (by omega)] at hd hu
      exact (hxs.2 j d u hd hu).mono fun b hb => ⟨(e1.stab b hb).2, (e1.stab b hb).1⟩
    · rw [List.getElem?_append_right (by omega)] at hd hu
      rw [← hvlen] at hd
      refine (hcont _ d u hd hu).mono fun b hb => ?_
      rcases hb with hb | hb
      · exact ⟨(e1.stab b hb).2, (e1.stab b hb).1⟩
      · refine ⟨⟨Nat.lt_of_lt_of_le (hSSlt b hb) hg.size, ?_, fun i hi hbi => ?_⟩, hSSkeep b hb⟩
        · obtain ⟨q, hq, hqb⟩ := List.mem_flatMap.1 hb
          exact H.inU q (hane q hq) b hqb
        obtain ⟨q, hq, hqb⟩ := List.mem_flatMap.1 hb
        by_cases h1 : i = id
        · subst h1
          simp only [rowC, if_true] at hbi
          have hbo : v'.ownBlock = some b := by
            cases hv : v'.ownBlock with
            | none => simp [hv] at hbi
            | some k => simp [hv] at hbi; rw [hbi]
          rcases hown b hbo with h | ⟨h2, h3⟩
          · have := hSSlt b hb; omega
          · exact H.apart i q (fun e => hidne q hq e.symm) h2 (hane q hq) b h3 hqb
        · by_cases h2 : i ∈ ids
          · simp [rowC, h1, h2] at hbi
          · simp only [rowC, h1, h2, if_false] at hbi
            have hi' : hp i ≠ none := by
              have := writes_kills ids (upd hp id (some (.row false ver' e (xs ++ ys)))) i
              simp only [writes, List.foldl_cons] at this hi
              rw [this] at hi
              simpa [h2, upd_ne _ _ h1] using hi
            exact H.apart i q (fun e => h2 (e ▸ hq)) hi' (hane q hq) b hbi hqb


/-! ### append -/
/-- Something that can be read cell by cell: n elements of 'size' cells. -/
def Src (w : World) (size : Nat) (v : Value) (n : Nat) (news : List Value) : Prop :=
  news.length = n * size ∧ ∃ A c, v = .slice A n c ∧ (news ≠ [] → ∃ ad, A = some ad ∧ ∀ (j : Nat) (u : Value), news[j]? = some u → w.cell? (ad.add j) = some u)

theorem run_append_any {P : Program} (w : World) (t ty e : TypeId) (size bytes : Nat) (zc : List AV) (ht : elOf (tyI P) t = some e) (hs : szOf (tyI P) e = some size) (hy : byOf (tyI P) e = some bytes) (hz : zrOf (tyI P) e = some zc) (hzs : zc.length = size) (hsz : 0 < size)
    {te : TypeId} {v x : Value} {n m : Nat} {xs news : List Value} (hown : w.ownsRow 0 te size v n xs) (hx : Src w size x m news) (h1 : ∀ u ∈ news, u.oneCell' = true) (hb : (n + m) * bytes ≤ 140737488355328) (h63 : n + m ≤ maxLen) :
    ∃ v' w' te', (Builtin.append_ #[t, t] ty #[v, x]).run P w = .ok v' w' ∧ w'.ownsRow 0 te' size v' (n + m) (xs ++ news) ∧ w.grownBy w' v.ownBlock ∧
      (∀ b, v'.ownBlock = some b → w.heap.size ≤ b ∨ v.ownBlock = some b) ∧ (m = 0 → v' = v) ∧ (∀ a, w'.frozen? a = w.frozen? a) := by
  have ht' := elOf_run ht
  obtain ⟨i, hi, hsi⟩ := Option.map_eq_some_iff.1 (szOf_info hs)
  obtain ⟨i', hi', hyi⟩ := Option.map_eq_some_iff.1 (byOf_info hy)
  rw [hi] at hi'
  obtain rfl := Option.some.inj hi'
  obtain ⟨i0, z, hi0, hz, hzc⟩ := zrOf_some hz
  rw [hi] at hi0
  obtain rfl := Option.some.inj hi0
  have hzl : z.cells.size = size := by rw [← hzs, hzc]; simp
  subst hsi hyi
  obtain ⟨hl, A, c, rfl, hA⟩ := hx
  have hsmall : n + m ≤ 9223372036854775807 := by simp only [maxLen] at h63; omega
  by_cases hm : m = 0
  · subst hm
    obtain rfl : news = [] := List.eq_nil_of_length_eq_zero (by omega)
    have hgr : ∀ row, w.grownBy w row := fun row => ⟨rfl, rfl, rfl, Nat.le_refl _, fun _ _ _ => rfl⟩
    refine ⟨v, w, te, ?_, by simpa using hown, hgr _, fun b hb => .inr hb, fun _ => rfl, fun _ => rfl⟩
    have hfc : ∀ w : World, (Builtin.firstCells i.size 0 (.slice A 0 c)).run P w = .ok #[] w := by
      intro w; cases A <;> simp [Builtin.firstCells, loadCells, loadCellsFrom]
    rcases hown.2 with ⟨rfl, rfl⟩ | ⟨g, cap, cur, rfl, _, hg, hnc, _⟩
    · simp [Builtin.append_, run_underlying ht', sizeOf, typeInfo, hi, Builtin.lenOf, hfc]
    · simp [Builtin.append_, run_underlying ht', sizeOf, typeInfo, hi, Builtin.lenOf, hfc, hnc, storeCells]
  · have hne : news ≠ [] := fun h => by
      have : 0 < m * i.size := Nat.mul_pos (by omega) hsz
      rw [← hl, h] at this; simp at this
    obtain ⟨ad, rfl, hnews⟩ := hA hne
    have hlen : (xs ++ news).length = (n + m) * i.size := by rw [List.length_append, hown.1, hl, Nat.add_mul]
    have grown : ∀ (old : Nat), old < n + m → ∀ (row : Option Nat),
        (w.drew.alloc (.cells (xs.toArray ++ news.toArray ++ Builtin.zeroCells z.cells (grownCap w (n + m) old e - (n + m))) e)).ownsRow 0 e i.size
          (.slice (some ⟨w.heap.size, 0, none⟩) (n + m) (grownCap w (n + m) old e)) (n + m) (xs ++ news) ∧
        w.grownBy (w.drew.alloc (.cells (xs.toArray ++ news.toArray ++ Builtin.zeroCells z.cells (grownCap w (n + m) old e - (n + m))) e)) row := by
      intro old ho row
      have hge := grownCap_ge w (n + m) old e
      have hcm : grownCap w (n + m) old e ≤ maxLen := grownCap_le_maxLen w (n + m) old e h63
      refine ⟨⟨hlen, .inr ⟨w.heap.size, _, _, rfl, Nat.zero_le _, heap_alloc_new w.drew _, hge, hcm, ?_, ?_⟩⟩, ⟨rfl, rfl, rfl, by simp, fun k hk _ => heap_alloc_old w.drew _ k hk⟩⟩
      · simp only [Array.size_append, List.size_toArray, size_zeroCells, hzl, hown.1, hl, ← Nat.add_mul]
        congr 1
        omega
      · simp only [Array.toList_append, List.append_assoc]
        rw [← List.append_assoc, ← hlen]
        exact List.take_left
    rcases hown.2 with ⟨rfl, rfl⟩ | ⟨g, cap, cur, rfl, _, hg, hnc, hcm, hcs, htake⟩
    · have hx0 : xs = [] := List.eq_nil_of_length_eq_zero (by simpa using hown.1)
      subst hx0
      have hr := run_append_nil (P := P) w t ty e i z ht' hi hz ad m c news hl hnews (by omega) (by omega) (by simp only [Nat.zero_add] at hb; omega)
      have hgr := grown 0 (by omega) (Value.ownBlock (.slice none 0 0))
      simp only [Nat.zero_add, List.nil_append, Array.empty_append] at hgr ⊢
      refine ⟨_, _, e, hr, hgr.1, hgr.2, fun b hb => .inl ?_, fun h => absurd h hm, fun a => frozen_alloc w.drew _ _ a⟩
      simp [Value.ownBlock] at hb
      omega
    · by_cases hroom : n + m ≤ cap
      · have hfit : n * i.size + news.length ≤ cur.size := by rw [hl, hcs, ← Nat.add_mul]; exact Nat.mul_le_mul_right _ hroom
        have hf := run_firstCells_some (P := P) w i.size m ad m c news hl hnews
        have hst := run_storeCells_at P g (n * i.size) te news 0 cur w hg (by simpa using hfit) h1
        simp only [Nat.add_zero] at hst
        have hr : (Builtin.append_ #[t, t] ty #[.slice (some ⟨g, 0, none⟩) n cap, .slice (some ad) m c]).run P w =
            .ok (.slice (some ⟨g, 0, none⟩) (n + m) cap) (w.setRow g (cur.toList.take (n * i.size) ++ news ++ cur.toList.drop (n * i.size + news.length)).toArray) := by
          simp [Builtin.append_, run_underlying ht', sizeOf, typeInfo, hi, Builtin.lenOf, hroom, hf, Addr.add_lit, hst]
        refine ⟨_, _, te, hr, ⟨hlen, .inr ⟨g, cap, _, rfl, Nat.zero_le _, setRow_heap w g cur _ te _ hg, hroom, hcm, ?_, ?_⟩⟩, ⟨rfl, rfl, rfl, by simp, fun k _ hk => setRow_other w g k _ (fun e => hk (by simp [Value.ownBlock, e]))⟩, fun b hb => .inr (by simpa [Value.ownBlock] using hb), fun h => absurd h hm, frozen_setRow w _ _⟩
        · simp only [List.size_toArray, List.length_append, List.length_take, List.length_drop, Array.length_toList]
          omega
        · rw [htake, ← hlen]
          exact List.take_left
      · have holds : ∀ (j : Nat) (u : Value), xs[j]? = some u → w.cell? ((⟨g, 0, none⟩ : Addr).add j) = some u := hown.cells (g := g) rfl
        have hr := run_append_grow (P := P) w t ty e i z ht' hi hz ⟨g, 0, none⟩ n cap xs hown.1 holds ad m c news hl hnews (by omega) (by omega) (growslice_fits (by omega) hb)
        have hgr := grown cap (by omega) (Value.ownBlock (.slice (some ⟨g, 0, none⟩) n cap))
        refine ⟨_, _, e, hr, hgr.1, hgr.2, fun b hb => .inl ?_, fun h => absurd h hm, fun a => frozen_alloc w.drew _ _ a⟩
        simp [Value.ownBlock] at hb
        omega

/-- What of an abstract slice can be read, and how it fits a row of the kind x. -/
def flatD : D → Bool
  | .sl _ => false
  | _ => true

inductive Feeds (x : Bool) (hp : Hp) (e : Nat) : AV → List (List D) → List Nat → Prop
  | nil : Feeds x hp e .nil [] []
  | flat {m : Md} {ys : List (List D)} (hl : live hp m = true) (he : ∀ cs ∈ ys, cs.length = e) (hf : ∀ cs ∈ ys, ∀ d ∈ cs, flatD d = true) : Feeds x hp e (.sl m ys) ys []
  | stab {ys : List (List D)} (hx : x = false) (he : ∀ cs ∈ ys, cs.length = e) : Feeds x hp e (.sl .st ys) ys []
  | rowFlat {id len : Nat} {y : Bool} {ver : Nat} {ys : List (List D)} (hi : hp id = some (.row y ver e ys)) (hlen : ys.length = len) (hf : ∀ cs ∈ ys, ∀ d ∈ cs, flatD d = true) : Feeds x hp e (.row id len) ys []
  | rowStab {id len : Nat} {ver : Nat} {ys : List (List D)} (hx : x = false) (hi : hp id = some (.row false ver e ys)) (hlen : ys.length = len) : Feeds x hp e (.row id len) ys []
  | rowIn {id len : Nat} {y : Bool} {ver : Nat} {ys : List (List D)} (hy : y = true) (hi : hp id = some (.row y ver e ys)) (hlen : ys.length = len) : Feeds x hp e (.row id len) ys [id]

theorem flat_x {w : World} {F : Nat → Prop} {d : D} {u : Value} (h : DRep w F d u) (hf : flatD d = true) : XRep w d u [] := by
  cases h with
  | int h => exact .int h
  | bool => exact .bool
  | str h => exact .str h
  | sl => simp [flatD] at hf

theorem none_Ss (n : Nat) : ∃ Ss : List (List Nat), Ss.length = n ∧ Ss.flatten = [] ∧ ∀ (j : Nat) (S : List Nat), Ss[j]? = some S → S = [] :=
  ⟨List.replicate n [], by simp, by simp, fun j S h => by
    have := List.mem_of_getElem? h
    exact (List.mem_replicate.1 this).2⟩

theorem cont_flat {x : Bool} {w : World} {hp : Hp} {C : Co} {ds : List D} {news : List Value} {F : Nat → Prop} (h : ∀ (j : Nat) (d : D) (u : Value), ds[j]? = some d → news[j]? = some u → DRep w F d u) (hf : ∀ d ∈ ds, flatD d = true) :
    Cont x w hp C [] ds news := by
  unfold Cont
  split
  · obtain ⟨Ss, s1, s2, s3⟩ := none_Ss news.length
    refine ⟨Ss, s1, by simp [s2], by simp [s2], fun j d u S hd hu hS => ?_⟩
    obtain rfl := s3 j S hS
    exact flat_x (h j d u hd hu) (hf d (List.mem_of_getElem? hd))
  · intro j d u hd hu
    have h1 := h j d u hd hu
    have h2 := hf d (List.mem_of_getElem? hd)
    cases h1 with
    | int h => exact .int h
    | bool => exact .bool
    | str h => exact .str h
    | sl => simp [flatD] at h2

theorem one_of_drep {w : World} {F : Nat → Prop} {d : D} {u : Value} (h : DRep w F d u) : u.oneCell' = true := by cases h <;> rfl

theorem mem_flatten_flat {e : Nat} {ys : List (List D)} (hf : ∀ cs ∈ ys, ∀ d ∈ cs, flatD d = true) : ∀ d ∈ ys.flatten, flatD d = true := fun d hd => by
  obtain ⟨cs, h1, h2⟩ := List.mem_flatten.1 hd
  exact hf cs h1 d h2

theorem row_src {w : World} {hp : Hp} {C : Co} (H : HConc w hp C) {id ver e : Nat} {y : Bool} {ys : List (List D)} (hi : hp id = some (.row y ver e ys)) :
    (∀ cs ∈ ys, cs.length = e) ∧ 0 < e ∧ ∃ te vals, w.ownsRow 0 te e (C id).v ys.length vals ∧ Src w e (C id).v ys.length vals := by
  have hb := H.rep id _ hi
  have key : ∀ te vals, w.ownsRow 0 te e (C id).v ys.length vals → Src w e (C id).v ys.length vals := by
    intro te vals own
    refine ⟨own.1, ?_⟩
    rcases own.2 with ⟨hv, hn⟩ | ⟨g, cap, cur, hv, _⟩
    · rw [hv, hn]
      refine ⟨none, 0, rfl, fun h => ?_⟩
      have := own.1
      rw [hn] at this
      exact absurd (List.eq_nil_of_length_eq_zero (by omega)) h
    · rw [hv]
      exact ⟨_, cap, rfl, fun _ => ⟨_, rfl, fun j u hu => own.cells (g := g) (by rw [hv]; rfl) j u hu⟩⟩
  simp only [BRep] at hb
  split at hb
  · obtain ⟨h1, h2, te, vals, Ss, own, _⟩ := hb; exact ⟨h1, h2, te, vals, own, key te vals own⟩
  · obtain ⟨h1, h2, _, te, vals, own, _⟩ := hb; exact ⟨h1, h2, te, vals, own, key te vals own⟩

theorem row_reads {w : World} {hp : Hp} {C : Co} (H : HConc w hp C) {id ver e : Nat} {y : Bool} {ys : List (List D)} (hi : hp id = some (.row y ver e ys)) {te : TypeId} {vals : List Value} (own : w.ownsRow 0 te e (C id).v ys.length vals) :
    (y = true → ∃ Ss : List (List Nat), Ss.length = vals.length ∧ (C id).S = (C id).v.ownBlock.toList ++ Ss.flatten ∧ ∀ (j : Nat) (d : D) (u : Value) (S : List Nat), ys.flatten[j]? = some d → vals[j]? = some u → Ss[j]? = some S → XRep w d u S) ∧
      (y = false → ∀ (j : Nat) (d : D) (u : Value), ys.flatten[j]? = some d → vals[j]? = some u → DRep w (Stab hp C w) d u) ∧
      ∀ (j : Nat) (d : D) (u : Value), ys.flatten[j]? = some d → vals[j]? = some u → ∃ F, DRep w F d u := by
  have hb := H.rep id _ hi
  have huniq : ∀ te2 vals2, w.ownsRow 0 te2 e (C id).v ys.length vals2 → vals2 = vals := by
    intro te2 vals2 own2
    rcases own.2 with ⟨e1, n1⟩ | ⟨g, cap, cur, e1, _, hg1, _, _, _, ht1⟩
    · rcases own2.2 with ⟨_, n2⟩ | ⟨g, cap, cur, e2, _⟩
      · have a1 := own.1; have a2 := own2.1
        rw [n1] at a1 a2
        simp at a1 a2
        rw [a1, a2]
      · rw [e1] at e2; simp at e2
    · rcases own2.2 with ⟨e2, _⟩ | ⟨g', cap', cur', e2, _, hg2, _, _, _, ht2⟩
      · rw [e1] at e2; simp at e2
      · rw [e1] at e2
        simp at e2
        obtain ⟨rfl, rfl⟩ := e2
        rw [hg1] at hg2
        simp at hg2
        obtain ⟨rfl, _⟩ := hg2
        rw [← ht1, ← ht2]
  simp only [BRep] at hb
  cases y with
  | true =>
    simp only [if_true] at hb
    obtain ⟨h1, h2, te2, vals2, Ss, own2, hl, hS, hr⟩ := hb
    obtain rfl := huniq te2 vals2 own2
    refine ⟨fun _ => ⟨Ss, hl, hS, hr⟩, by simp, fun j d u hd hu => ?_⟩
    have hj := (List.getElem?_eq_some_iff.1 hu).1
    exact ⟨_, (hr j d u _ hd hu (List.getElem?_eq_getElem (by omega))).read⟩
  | false =>
    simp only [Bool.false_eq_true, if_false] at hb
    obtain ⟨h1, h2, _, te2, vals2, own2, hr⟩ := hb
    obtain rfl := huniq te2 vals2 own2
    exact ⟨by simp, fun _ => hr, fun j d u hd hu => ⟨_, hr j d u hd hu⟩⟩

theorem feeds_src {x : Bool} {w : World} {hp : Hp} {C : Co} (H : HConc w hp C) {e : Nat} {a : AV} {v : Value} {ys : List (List D)} {ids : List Nat} (hv : VRep w hp C a v) (h : Feeds x hp e a ys ids) :
    (∀ cs ∈ ys, cs.length = e) ∧ ids.Nodup ∧ (∀ i ∈ ids, ∃ y ver e xs, hp i = some (.row y ver e xs)) ∧ ∃ news, Src w e v ys.length news ∧ Cont x w hp C ids ys.flatten news ∧ (∀ u ∈ news, u.oneCell' = true) := by
  have hone : ∀ (ys : List (List D)) (news : List Value), news.length = ys.flatten.length → (∀ (j : Nat) (d : D) (u : Value), ys.flatten[j]? = some d → news[j]? = some u → ∃ F, DRep w F d u) → ∀ u ∈ news, u.oneCell' = true := by
    intro ys news hl hr u hu
    obtain ⟨j, hj⟩ := List.getElem?_of_mem hu
    have hjl := (List.getElem?_eq_some_iff.1 hj).1
    obtain ⟨F, hF⟩ := hr j _ u (List.getElem?_eq_getElem (by omega)) hj
    exact one_of_drep hF
  cases h with
  | nil =>
    simp only [VRep] at hv
    subst hv
    refine ⟨by simp, by simp, by simp, [], ⟨by simp, none, 0, rfl, by simp⟩, ?_, by simp⟩
    exact cont_flat (F := fun _ => True) (by simp) (by simp)
  | flat hl he hf =>
    simp only [VRep] at hv
    obtain ⟨F, hd, _⟩ := MF.live hv.2 hl
    cases hd with
    | @sl e0 _ A c vals he0 hc hm hvl hr ha =>
      have hl1 := length_flatten he
      refine ⟨he, by simp, by simp, vals, ⟨by rw [hvl, hl1], A, c, rfl, fun hne => ?_⟩, cont_flat hr (mem_flatten_flat (e := e) hf), hone ys vals hvl fun j d u h1 h2 => ⟨F, hr j d u h1 h2⟩⟩
      obtain ⟨ad, h1, _, h2⟩ := ha hne
      exact ⟨ad, h1, h2⟩
  | stab hx he =>
    simp only [VRep, MF] at hv
    have hd := hv.2
    cases hd with
    | @sl e0 _ A c vals he0 hc hm hvl hr ha =>
      have hl1 := length_flatten he
      refine ⟨he, by simp, by simp, vals, ⟨by rw [hvl, hl1], A, c, rfl, fun hne => ?_⟩, ?_, hone ys vals hvl fun j d u h1 h2 => ⟨_, hr j d u h1 h2⟩⟩
      · obtain ⟨ad, h1, _, h2⟩ := ha hne
        exact ⟨ad, h1, h2⟩
      · simp only [Cont, hx, Bool.false_eq_true, if_false]
        exact fun j d u h1 h2 => (hr j d u h1 h2).mono fun b hb => ⟨.inl hb, rfl⟩
  | @rowFlat id len y ver ys hi hlen hf =>
    simp only [VRep, hi] at hv
    rw [hv.2.2 hlen]
    obtain ⟨h1, h2, te, vals, own, src⟩ := row_src H hi
    obtain ⟨_, _, h3⟩ := row_reads H hi own
    have hvl : vals.length = ys.flatten.length := by rw [own.1, length_flatten h1]
    refine ⟨h1, by simp, by simp, vals, src, ?_, hone ys vals hvl h3⟩
    unfold Cont
    split
    · obtain ⟨Ss, s1, s2, s3⟩ := none_Ss vals.length
      refine ⟨Ss, s1, by simp [s2], by simp [s2], fun j d u S hd hu hS => ?_⟩
      obtain rfl := s3 j S hS
      obtain ⟨F, hF⟩ := h3 j d u hd hu
      exact flat_x hF (mem_flatten_flat (e := e) hf d (List.mem_of_getElem? hd))
    · intro j d u hd hu
      obtain ⟨F, hF⟩ := h3 j d u hd hu
      have h4 := mem_flatten_flat (e := e) hf d (List.mem_of_getElem? hd)
      cases hF with
      | int h => exact .int h
      | bool => exact .bool
      | str h => exact .str h
      | sl => simp [flatD] at h4
  | @rowStab id len ver ys hx hi hlen =>
    simp only [VRep, hi] at hv
    rw [hv.2.2 hlen]
    obtain ⟨h1, h2, te, vals, own, src⟩ := row_src H hi
    obtain ⟨_, h4, h3⟩ := row_reads H hi own
    have hvl : vals.length = ys.flatten.length := by rw [own.1, length_flatten h1]
    refine ⟨h1, by simp, by simp, vals, src, ?_, hone ys vals hvl h3⟩
    simp only [Cont, hx, Bool.false_eq_true, if_false]
    exact fun j d u hd hu => (h4 rfl j d u hd hu).mono fun b hb => ⟨.inl hb, rfl⟩
  | @rowIn id len y ver ys hy hi hlen =>
    simp only [VRep, hi] at hv
    rw [hv.2.2 hlen]
    obtain ⟨h1, h2, te, vals, own, src⟩ := row_src H hi
    obtain ⟨h4, _, h3⟩ := row_reads H hi own
    have hvl : vals.length = ys.flatten.length := by rw [own.1, length_flatten h1]
    obtain ⟨Ss, h5, h6, h7⟩ := h4 hy
    have hnd := H.nodup id (by simp [hi])
    rw [h6] at hnd
    refine ⟨h1, by simp, by simp [hi], vals, src, ?_, hone ys vals hvl h3⟩
    unfold Cont
    split
    · exact ⟨Ss, h5, (List.nodup_append.1 hnd).2.1, fun b hb => by simp [SS, h6, hb], h7⟩
    · intro j d u hd hu
      have hj := (List.getElem?_eq_some_iff.1 hu).1
      have hSj : Ss[j]? = some (Ss[j]'(by omega)) := List.getElem?_eq_getElem (by omega)
      exact (h7 j d u _ hd hu hSj).read.mono fun b hb => ⟨.inr (by simp only [SS, List.flatMap_cons, List.flatMap_nil, List.append_nil, h6]; exact List.mem_append_right _ (List.mem_flatten.2 ⟨_, List.mem_of_getElem? hSj, hb⟩)), rfl⟩


theorem St.app_eq {σ : St} {dst : Option Tmp} {v : AV} {ws : List (Nat × Blk)} : σ.app dst ⟨v, ws⟩ = { (σ.put dst v) with hp := writes σ.hp ws } := rfl

/-- What stands at the target of an append. -/
inductive Target (hp : Hp) (N : Nat) (x : Bool) (e : Nat) : AV → Nat → Nat → List (List D) → Prop
  | new (hN : hp N = none) : Target hp N x e .nil N 0 []
  | row {id len ver : Nat} {xs : List (List D)} (hi : hp id = some (.row x ver e xs)) (hlen : xs.length = len) : Target hp N x e (.row id len) id ver xs

theorem ok_append {P : Program} {o : Oper} {σ : St} {N : Nat} {s y : Operand} {t et : TypeId} {e bytes : Nat} {zc : List AV} {x : Bool} {id ver : Nat} {xs ys : List (List D)} {ids : List Nat}
    (ho : o.op = .call { callee := .builtin .append, args := #[s, y], argTypes := #[t, t] }) (ht : elOf (tyI P) t = some et) (hs : szOf (tyI P) et = some e) (hb : byOf (tyI P) et = some bytes) (hz : zrOf (tyI P) et = some zc) (hzs : zc.length = e) (h0 : 0 < e)
    (htg : Target σ.hp N x e (σ.ev s) id ver xs) (hfd : Feeds x σ.hp e (σ.ev y) ys ids) (hnotin : id ∉ ids) (hsize : (xs.length + ys.length) * bytes ≤ 140737488355328) (hlen : xs.length + ys.length ≤ 9223372036854775807) :
    OpOk P o σ ⟨.row id (xs.length + ys.length), (id, .row x (ver + 1) e (xs ++ ys)) :: kills ids⟩ := by
  intro C a w hc
  have hsv := hc.ev s
  have hyv := hc.ev y
  obtain ⟨hye, hnd, hal, news, hsrc, hcont, hone⟩ := feeds_src hc.heap hyv hfd
  generalize hsA : σ.ev s = sA at htg hsv
  have hnl : news.length = ys.flatten.length := by rw [hsrc.1, length_flatten hye]
  have main : ∀ (te : TypeId) (vals : List Value) (v0 : Value), a.eval s = v0 → ((σ.hp id = none ∧ xs = []) ∨ σ.hp id = some (.row x ver e xs)) → (σ.hp id ≠ none → w.ownsRow 0 te e (C id).v xs.length vals ∧ v0 = (C id).v) →
      (σ.hp id = none → vals = [] ∧ v0 = .slice none 0 0) → w.ownsRow 0 te e v0 xs.length vals →
      o.wp P a w (fun a' w' => ∃ C', Conc (σ.app o.dst ⟨.row id (xs.length + ys.length), (id, .row x (ver + 1) e (xs ++ ys)) :: kills ids⟩) C' a' w' ∧
        Ev w σ.hp C w' (writes σ.hp ((id, .row x (ver + 1) e (xs ++ ys)) :: kills ids)) C' ∧ Fr w σ.hp C w' (writes σ.hp ((id, .row x (ver + 1) e (xs ++ ys)) :: kills ids)) C') (fun _ _ _ => False) := by
    intro te vals v0 hv0 hold hvl hvn hown
    obtain ⟨v', w', te', hr, own', hg, hblk, hsame, hfz⟩ := run_append_any (P := P) w t o.type et e bytes zc ht hs hb hz hzs h0 hown hsrc hone hsize (by simp only [maxLen]; omega)
    have hg' : w.grownBy w' (if (σ.hp id).isNone = true then none else (C id).v.ownBlock) := by
      cases hi : σ.hp id with
      | none => rw [(hvn hi).2] at hg; simpa [Value.ownBlock] using hg
      | some b => rw [(hvl (by simp [hi])).2] at hg; simpa using hg
    obtain ⟨cb, hcv, e1, e2, e3⟩ := row_stand (w' := w') (te := te) (te' := te') (vals := vals) (news := news) (ys := ys) hc.heap hg' hfz hnotin hal hold h0 hye (fun h => (hvl h).1) (fun h => (hvn h).1)
      (by rw [List.length_append]; exact own') hnl hcont (fun b hb => (hblk b hb).imp _root_.id fun h => by
        cases hi : σ.hp id with
        | none => rw [(hvn hi).2] at h; simp [Value.ownBlock] at h
        | some q => exact ⟨by simp, by rw [(hvl (by simp [hi])).2] at h; exact h⟩)
      (fun h hy => by rw [← (hvl h).2]; exact hsame (by simp [hy])) (ver + 1) (by omega)
    unfold Oper.wp
    have hrun : (execOp a.eval o).run P w = .ok (.value v') w' := by
      unfold execOp
      simp only [ho, resolve, invoke, builtin, Sem.run_bind, Sem.run_pure, Result.andThen_ok, List.map_toArray, List.map_cons, List.map_nil, hv0, hr]
    rw [hrun, Oper.upon_value]
    refine ⟨_, hc.put o.dst e1 ?_ e3, e1, e2⟩
    have hlk : writes σ.hp ((id, .row x (ver + 1) e (xs ++ ys)) :: kills ids) id = some (.row x (ver + 1) e (xs ++ ys)) := by
      have := writes_kills ids (upd σ.hp id (some (.row x (ver + 1) e (xs ++ ys)))) id
      simp only [writes, List.foldl_cons] at this ⊢
      rw [this]; simp [hnotin]
    simp only [VRep, hlk]
    refine ⟨?_, by simp, fun _ => by simp only [rowC, if_true]; exact hcv.symm⟩
    rcases own'.2 with ⟨h, _⟩ | ⟨g, cap, cur, h, _⟩
    · exact ⟨_, _, _, h⟩
    · exact ⟨_, _, _, h⟩
  cases htg with
  | new hN =>
    simp only [VRep] at hsv
    exact main 0 [] _ hsv (.inl ⟨hN, rfl⟩) (fun h => absurd hN h) (fun _ => ⟨rfl, rfl⟩) (World.ownsRow_nil w 0 0 e)
  | row hi hlen' =>
    simp only [VRep, hi] at hsv
    obtain ⟨h1, h2, te, vals, own, _⟩ := row_src hc.heap hi
    exact main te vals _ (hsv.2.2 hlen') (.inr hi) (fun _ => ⟨own, rfl⟩) (fun h => by rw [hi] at h; cases h) own

end Go.Al
