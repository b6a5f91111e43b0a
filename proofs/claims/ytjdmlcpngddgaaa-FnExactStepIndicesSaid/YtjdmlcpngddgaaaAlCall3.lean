/- The abstract logic, part 9: the call. -/
import Derived.Test.YtjdmlcpngddgaaaAlCall2
set_option linter.unusedVariables false
set_option linter.unusedSimpArgs false
namespace Go.Al
open Go Go.RowKit

theorem nodup_map_on {α β : Type} {f : α → β} {l : List α} (h : ∀ i ∈ l, ∀ j ∈ l, f i = f j → i = j) (hn : l.Nodup) : (l.map f).Nodup := by
  rw [List.Nodup, List.pairwise_map]
  exact List.Pairwise.imp_of_mem (fun {a b} ha hb hab e => hab (h a ha b hb e)) hn
theorem nodup_flat : ∀ {cbs : List CB}, (cbs.flatMap (·.S)).Nodup → (∀ cb ∈ cbs, cb.S.Nodup) ∧ ∀ (x y : Nat) (cx cy : CB), x < y → cbs[x]? = some cx → cbs[y]? = some cy → ∀ b ∈ cx.S, b ∉ cy.S
  | [], h => ⟨by simp, by simp⟩
  | c :: cbs, h => by
    simp only [List.flatMap_cons, List.nodup_append] at h
    obtain ⟨h1, h2, h3⟩ := h
    obtain ⟨k1, k2⟩ := nodup_flat h2
    refine ⟨fun cb hcb => ?_, fun x y cx cy hxy hx hy b hb hb' => ?_⟩
    · rcases List.mem_cons.1 hcb with rfl | hcb
      · exact h1
      · exact k1 cb hcb
    · cases y with
      | zero => omega
      | succ y =>
        cases x with
        | zero =>
          simp at hx hy; subst hx
          exact h3 b hb b (List.mem_flatMap.2 ⟨cy, List.mem_of_getElem? hy, hb'⟩) rfl
        | succ x => exact k2 x y cx cy (by omega) (by simpa using hx) (by simpa using hy) b hb hb'

theorem writes_not {ws : List (Nat × Blk)} {hp : Hp} {j : Nat} (h : j ∉ ws.map (·.1)) : writes hp ws j = hp j := by
  induction ws generalizing hp with
  | nil => rfl
  | cons p ws ih =>
    simp only [List.map_cons, List.mem_cons, not_or] at h
    have : writes hp (p :: ws) j = writes (upd hp p.1 (some p.2)) ws j := rfl
    rw [this, ih h.2, upd_ne _ _ h.1]
theorem writes_mem {ws : List (Nat × Blk)} {hp : Hp} {j : Nat} {b : Blk} (hn : (ws.map (·.1)).Nodup) (h : (j, b) ∈ ws) : writes hp ws j = some b := by
  induction ws generalizing hp with
  | nil => simp at h
  | cons p ws ih =>
    have e : writes hp (p :: ws) j = writes (upd hp p.1 (some p.2)) ws j := rfl
    rw [e]
    simp only [List.map_cons, List.nodup_cons] at hn
    rcases List.mem_cons.1 h with rfl | h
    · rw [writes_not hn.1]; exact upd_same ..
    · exact ih hn.2 h

/-- The callee's reality. -/
def intoC (w : World) (hp : Hp) (C : Co) (f : Nat → Nat) (V : Nat) (sn : List Nat) : Co :=
  ⟨fun k => C (f k), fun b => w.heap.size ≤ b ∨ Stab hp C w b ∨ (∃ k, k < V ∧ b ∈ (C (f k)).S) ∨ (∃ id ∈ sn, hp id ≠ none ∧ b ∈ (C id).S)⟩

/-- What is handed by reference. -/
structure Hand (hp chp : Hp) (f : Nat → Nat) (V : Nat) (sn : List Nat) : Prop where
  ids : ∀ k, k < V → ∃ blk blk', hp (f k) = some blk ∧ chp k = some blk' ∧ blkOk hp chp f [] blk blk'
  out : ∀ k, V ≤ k → chp k = none
  inj : ∀ i j, i < V → j < V → f i = f j → i = j
  snap : ∀ id ∈ sn, ∀ k, k < V → id ≠ f k

theorem into_ok {w : World} {hp chp : Hp} {C : Co} {f : Nat → Nat} {V : Nat} {sn : List Nat} (H : HConc w hp C) (A : Hand hp chp f V sn) :
    Into w hp C chp (intoC w hp C f V sn) f sn ∧ HConc w chp (intoC w hp C f V sn) := by
  have lt : ∀ k, chp k ≠ none → k < V := fun k hk => Nat.lt_of_not_le fun h => hk (A.out k h)
  have al : ∀ k, k < V → hp (f k) ≠ none := fun k hk => by obtain ⟨blk, _, h, _⟩ := A.ids k hk; simp [h]
  have st : ∀ b, Stab hp C w b → Stab chp (intoC w hp C f V sn) w b := fun b hb => ⟨hb.1, .inr (.inl hb), fun k hk => hb.2.2 (f k) (al k (lt k hk))⟩
  have I : ∀ sn', (∀ id ∈ sn', id ∈ sn) → Into w hp C chp (intoC w hp C f V sn) f sn' := fun sn' hs => by
    refine ⟨H, st, fun id hid hi b hb => ⟨H.lt hi b hb, .inr (.inr (.inr ⟨id, hs id hid, hi, hb⟩)), fun k hk hbk => ?_⟩, fun k hk => ?_⟩
    · exact H.apart id (f k) (A.snap id (hs id hid) k (lt k hk)) hi (al k (lt k hk)) b hb hbk
    · obtain ⟨blk, blk', h1, h2, h3⟩ := A.ids k (lt k (by intro h; rw [h] at hk; simp at hk))
      exact ⟨blk, blk', [], h1, h2, h3, rfl⟩
  refine ⟨I sn fun _ h => h, ⟨fun b hb => .inl hb, fun k hk b hb => .inr (.inr (.inl ⟨k, lt k hk, hb⟩)), fun k blk' hk => ?_, fun k hk => H.nodup (f k) (al k (lt k hk)), fun i j hij hi hj b hb => ?_⟩⟩
  · obtain ⟨blk, blk2, h1, h2, h3⟩ := A.ids k (lt k (by simp [hk]))
    rw [hk] at h2
    obtain rfl := Option.some.inj h2
    have hr := H.rep _ _ h1
    cases blk <;> cases blk' <;> simp only [blkOk] at h3
    · exact hr
    · exact hr
    · obtain ⟨b, arr, te, k1, k2, k3, k4⟩ := hr
      exact ⟨b, arr, te, k1, k2, k3, argsOk_rep (I [] (by simp)) k4 h3⟩
    · obtain ⟨rfl, rfl, rfl, rfl⟩ := h3
      simp only [BRep] at hr ⊢
      split
      · rename_i hx; simp only [hx, if_true] at hr; exact hr
      · rename_i hx; simp only [hx] at hr
        obtain ⟨k1, k2, k3, te, vals, own, k4⟩ := hr
        exact ⟨k1, k2, k3, te, vals, own, fun j d u hd hu => (k4 j d u hd hu).mono fun b hb => ⟨st b hb, rfl⟩⟩
  · exact H.apart (f i) (f j) (fun e => hij (A.inj i j (lt i hi) (lt j hj) e)) (al i (lt i hi)) (al j (lt j hj)) b hb

theorem idev_ren {w w' : World} {c c' : CB} {blk blk' blk2 : Blk} {hp hq : Hp} {f : Nat → Nat} {sn : List Nat} (h : blkOk hp hq f sn blk blk') (e : IdEv w w' c blk' c' blk2) : IdEv w w' c blk c' (blk2.ren f) := by
  cases blk <;> cases blk' <;> simp only [blkOk] at h
  · cases blk2 <;> simp [IdEv, Blk.ren] at e ⊢
  · cases blk2 <;> simp [IdEv, Blk.ren] at e ⊢
  · cases blk2 <;> simp [IdEv, Blk.ren] at e ⊢
    exact e
  · obtain ⟨rfl, rfl, rfl, rfl⟩ := h
    cases blk2 <;> simp only [IdEv, Blk.ren] at e ⊢
    exact e

def backs (f : Nat → Nat) (V : Nat) (chp' : Hp) : List (Nat × Blk) := (List.range V).map fun k => (f k, ((chp' k).getD .dead).ren f)
def newWs (N : Nat) (bs : List Blk) : List (Nat × Blk) := (List.range bs.length).map fun i => (N + i, bs.getD i .dead)
def backC (C Cq : Co) (f : Nat → Nat) (V N : Nat) (cbs : List CB) : Co :=
  { C with cb := fun id => match (List.range V).find? (fun k => f k == id) with
    | some k => Cq k
    | none => if N ≤ id ∧ id < N + cbs.length then cbs.getD (id - N) ⟨.bool false, []⟩ else C id }

theorem find_f {f : Nat → Nat} {V : Nat} (inj : ∀ i j, i < V → j < V → f i = f j → i = j) {k : Nat} (hk : k < V) : (List.range V).find? (fun j => f j == f k) = some k := by
  cases h : (List.range V).find? (fun j => f j == f k) with
  | none => exact absurd (by simp) (List.find?_eq_none.1 h k (by simp [hk]))
  | some j =>
    have h1 := List.find?_some h
    have h2 := List.mem_of_find?_eq_some h
    simp at h1 h2
    rw [inj j k h2 hk h1]

theorem ok_call {P : Program} {o : Oper} {σ : St} {f : Nat → Nat} {V N : Nat} {chp chp' : Hp} {sn : List Nat} {r : AV} {pargs : List AV} {fo : Operand} {args : Array Operand} {ats : Array TypeId} {g : FuncId} {caps : List AV}
    (ho : o.op = .call { callee := .value fo, args := args, argTypes := ats }) (hg : σ.ev fo = .fn g caps) (hc : ACall P V g pargs chp r chp')
    (hargs : argsOk σ.hp chp f sn (args.toList.map σ.ev ++ caps) pargs) (hand : Hand σ.hp chp f V sn)
    (hN : ∀ i, i < (newsT r).length → σ.hp (N + i) = none)
    (hst : sn = [] ∨ (r.flat = true ∧ ∀ k, k < V → ∀ blk, chp' k = some blk → blk.flat = true))
    (hrefs : ∀ id ∈ r.refs, id < V) (hrefs' : ∀ k, k < V → ∀ blk, chp' k = some blk → ∀ id ∈ blk.refs, id < V) :
    OpOk P o σ ⟨impT f N r, backs f V chp' ++ newWs N (newsT r)⟩ := by
  intro C a w hcc
  obtain ⟨⟨fn, c, hfn, hname, hbody⟩, hcall⟩ := hc
  have hfv := hcc.ev fo
  rw [hg] at hfv
  simp only [VRep] at hfv
  obtain ⟨cvs, hfo, hcvs⟩ := hfv
  have hrun : (execOp a.eval o).run P w = .ok (.enter g (args.map a.eval ++ cvs)) w := by
    have h1 : fn.name ≠ "runtime.NumGoroutine" := by simpa using hname
    have h2 : ∀ args, (callFunc g args).run P w = .ok (.enter g args) w := fun args => by simp [callFunc, hfn, h1, hbody]
    unfold execOp
    simp [ho, resolve, hfo, Deferred.ofValue, invoke, h2]
  obtain ⟨I, HC⟩ := into_ok (C := C) hcc.heap hand
  have hav := argsOk_rep I (VReps.append (VReps.map_ev hcc args.toList) hcvs) hargs
  have hcalls := hcall (intoC w σ.hp C f V sn) w _ HC hav
  unfold Oper.wp
  rw [hrun, Oper.upon_enter]
  have harr : (args.toList.map a.eval ++ cvs.toList).toArray = args.map a.eval ++ cvs := by
    apply Array.ext'; simp
  rw [harr] at hcalls
  refine Calls.mono hcalls ?_
  rintro e w' ⟨v, Cq, S, rfl, hCV, hV0, HQ, hgone, hR⟩
  simp only
  -- what lies where
  have lt : ∀ k, chp k ≠ none → k < V := fun k hk => Nat.lt_of_not_le fun h => hk (hand.out k h)
  have al : ∀ k, k < V → σ.hp (f k) ≠ none := fun k hk => by obtain ⟨blk, _, h, _⟩ := hand.ids k hk; simp [h]
  have hfr := hgone.fr
  have st : ∃ st : Bool, (st = true → sn = []) ∧ (st = true ∨ r.flat = true) ∧ (∀ k, k < V → ∀ blk, chp' k = some blk → (st = true ∨ blk.flat = true)) := by
    rcases hst with h | ⟨h1, h2⟩
    · exact ⟨true, fun _ => h, .inl rfl, fun _ _ _ _ => .inl rfl⟩
    · exact ⟨false, by simp, .inr h1, fun k hk blk hb => .inr (h2 k hk blk hb)⟩
  obtain ⟨st, hst1, hst2, hst3⟩ := st
  obtain ⟨cbs, hlen, hS, hnew, hback⟩ := imp_T (f := f) (V := V) (st := st) hR hrefs hst2
  have hq1 : ∀ k, k < V → upd chp' V (some Blk.held) k = chp' k := fun k hk => upd_ne _ _ (by omega)
  have hbeh : ∀ k, k < V → ∃ blk blk' blk2, σ.hp (f k) = some blk ∧ chp k = some blk' ∧ blkOk σ.hp chp f [] blk blk' ∧ chp' k = some blk2 ∧ IdEv w w' (C (f k)) blk (Cq k) (blk2.ren f) := fun k hk => by
    obtain ⟨blk, blk', h1, h2, h3⟩ := hand.ids k hk
    obtain ⟨blk2, h4, h5⟩ := hgone.vev k hk blk' h2
    rw [hq1 k hk] at h4
    exact ⟨blk, blk', blk2, h1, h2, h3, h4, idev_ren h3 h5⟩
  -- the caller's heap
  let ws := backs f V chp' ++ newWs N (newsT r)
  let hp2 := writes σ.hp ws
  let C2 := backC C Cq f V N cbs
  have hkeys : ws.map (·.1) = (List.range V).map f ++ (List.range (newsT r).length).map (N + ·) := by
    simp [ws, backs, newWs, Function.comp_def]
  have hnd : (ws.map (·.1)).Nodup := by
    rw [hkeys, List.nodup_append]
    refine ⟨?_, ?_, ?_⟩
    · refine nodup_map_on ?_ List.nodup_range
      intro i hi j hj h
      exact hand.inj i j (by simpa using hi) (by simpa using hj) h
    · refine nodup_map_on ?_ List.nodup_range
      intro i _ j _ h; simpa using h
    · intro x hx y hy hxy
      simp only [List.mem_map, List.mem_range] at hx hy
      obtain ⟨k, hk, rfl⟩ := hx
      obtain ⟨i, hi, rfl⟩ := hy
      exact al k hk (by rw [hxy]; exact hN i hi)
  have hp2_f : ∀ k, k < V → ∀ blk2, chp' k = some blk2 → hp2 (f k) = some (blk2.ren f) := fun k hk blk2 hb => by
    refine writes_mem hnd (List.mem_append_left _ ?_)
    simp only [backs, List.mem_map, List.mem_range]
    exact ⟨k, hk, by simp [hb]⟩
  have hp2_n : ∀ (i : Nat) (blk : Blk), (newsT r)[i]? = some blk → hp2 (N + i) = some blk := fun i blk hi => by
    refine writes_mem hnd (List.mem_append_right _ ?_)
    simp only [newWs, List.mem_map, List.mem_range]
    exact ⟨i, (List.getElem?_eq_some_iff.1 hi).1, by simp [List.getD_eq_getElem?_getD, hi]⟩
  have hp2_o : ∀ id, (∀ k, k < V → id ≠ f k) → (∀ i, i < (newsT r).length → id ≠ N + i) → hp2 id = σ.hp id := fun id h1 h2 => by
    refine writes_not ?_
    rw [hkeys, List.mem_append]
    rintro (h | h)
    · obtain ⟨k, hk, rfl⟩ := List.mem_map.1 h; exact h1 k (by simpa using hk) rfl
    · obtain ⟨i, hi, rfl⟩ := List.mem_map.1 h; exact h2 i (by simpa using hi) rfl
  have C2_f : ∀ k, k < V → C2 (f k) = Cq k := fun k hk => by
    show (backC C Cq f V N cbs).cb (f k) = _
    simp only [backC]
    rw [find_f hand.inj hk]
  have nof : ∀ id, (∀ k, k < V → id ≠ f k) → (List.range V).find? (fun k => f k == id) = none := fun id h => by
    rw [List.find?_eq_none]
    intro k hk
    have := h k (by simpa using hk)
    simp; exact fun e => this e.symm
  have newf : ∀ i, i < (newsT r).length → ∀ k, k < V → N + i ≠ f k := fun i hi k hk e => al k hk (by rw [← e]; exact hN i hi)
  have C2_n : ∀ (i : Nat) (cb : CB), cbs[i]? = some cb → C2 (N + i) = cb := fun i cb hi => by
    have hil := (List.getElem?_eq_some_iff.1 hi).1
    show (backC C Cq f V N cbs).cb (N + i) = _
    simp only [backC]
    rw [nof _ (newf i (by omega))]
    simp only [Nat.le_add_right, Nat.add_lt_add_iff_left, hil, true_and, if_true, List.getD_eq_getElem?_getD]
    rw [show N + i - N = i by omega, hi]
    try rfl
  have C2_o : ∀ id, (∀ k, k < V → id ≠ f k) → (∀ i, i < (newsT r).length → id ≠ N + i) → C2 id = C id := fun id h1 h2 => by
    show (backC C Cq f V N cbs).cb id = _
    simp only [backC]
    rw [nof _ h1]
    simp only
    rw [if_neg]
    rintro ⟨h3, h4⟩
    exact h2 (id - N) (by omega) (by omega)
  -- where the callee's blocks come of
  have came : ∀ b, Own (upd chp' V (some .held)) Cq b → w.heap.size ≤ b ∨ ∃ k, k < V ∧ b ∈ (C (f k)).S := fun b hb => by
    rcases hfr.own b hb with ⟨k, hk, hbk⟩ | h
    · exact .inr ⟨k, lt k hk, hbk⟩
    · exact .inl h
  have ownS : ∀ b ∈ S, Own (upd chp' V (some .held)) Cq b := fun b hb => ⟨V, by simp, by rw [hCV]; exact hb⟩
  have ownQ : ∀ k, k < V → ∀ b ∈ (Cq k).S, Own (upd chp' V (some .held)) Cq b := fun k hk b hb => by
    obtain ⟨_, _, blk2, _, _, _, h4, _⟩ := hbeh k hk
    exact ⟨k, by rw [hq1 k hk, h4]; simp, hb⟩
  have cbS : ∀ (i : Nat) (cb : CB), cbs[i]? = some cb → ∀ b ∈ cb.S, b ∈ S := fun i cb hi b hb => by
    rw [← hS, List.mem_flatMap]
    exact ⟨cb, List.mem_of_getElem? hi, hb⟩
  have SN : S.Nodup := by have := HQ.nodup V (by simp); rw [hCV] at this; exact this
  let T : Nat → Prop := fun id => (∃ k, k < V ∧ id = f k) ∨ (∃ i, i < (newsT r).length ∧ id = N + i)
  have notT : ∀ id, ¬ T id → (∀ k, k < V → id ≠ f k) ∧ (∀ i, i < (newsT r).length → id ≠ N + i) := fun id h => ⟨fun k hk e => h (.inl ⟨k, hk, e⟩), fun i hi e => h (.inr ⟨i, hi, e⟩)⟩
  have getcb : ∀ i, i < (newsT r).length → ∃ blk cb, (newsT r)[i]? = some blk ∧ cbs[i]? = some cb := fun i hi => ⟨_, _, List.getElem?_eq_getElem hi, List.getElem?_eq_getElem (by omega)⟩
  have ownT : ∀ id, T id → ∀ b ∈ (C2 id).S, Own (upd chp' V (some .held)) Cq b := fun id hT b hb => by
    rcases hT with ⟨k, hk, rfl⟩ | ⟨i, hi, rfl⟩
    · rw [C2_f k hk] at hb; exact ownQ k hk b hb
    · obtain ⟨blk, cb, h1, h2⟩ := getcb i hi
      rw [C2_n i cb h2] at hb
      exact ownS b (cbS i cb h2 b hb)
  obtain ⟨hE, hF, hHC⟩ := turn_conc (hp' := hp2) (C' := C2) T hcc.heap rfl hfr.os hfr.tape hfr.output hfr.size hfr.frz
    (fun b hb ho => hfr.block b hb fun ⟨k, hk, hbk⟩ => ho (f k) (.inl ⟨k, lt k hk, rfl⟩) (al k (lt k hk)) hbk)
    (fun id hT => ⟨hp2_o id (notT id hT).1 (notT id hT).2, C2_o id (notT id hT).1 (notT id hT).2⟩)
    (fun id blk hT hi => by
      rcases hT with ⟨k, hk, rfl⟩ | ⟨i, hil, rfl⟩
      · obtain ⟨blk1, _, blk2, h1, _, _, h4, h5⟩ := hbeh k hk
        rw [hi] at h1
        obtain rfl := Option.some.inj h1
        exact ⟨_, hp2_f k hk blk2 h4, by rw [C2_f k hk]; exact h5⟩
      · rw [hN i hil] at hi; simp at hi)
    (fun id hT hi b hb => by
      rcases came b (ownT id hT b hb) with h | ⟨k, hk, h⟩
      · exact .inl h
      · exact .inr ⟨f k, .inl ⟨k, hk, rfl⟩, al k hk, h⟩)
    (fun id hT hi => by
      rcases hT with ⟨k, hk, rfl⟩ | ⟨i, hil, rfl⟩
      · rw [C2_f k hk]
        obtain ⟨_, _, blk2, _, _, _, h4, _⟩ := hbeh k hk
        exact HQ.nodup k (by rw [hq1 k hk, h4]; simp)
      · obtain ⟨blk, cb, h1, h2⟩ := getcb i hil
        rw [C2_n i cb h2]
        have := SN
        rw [← hS] at this
        exact (nodup_flat this).1 cb (List.mem_of_getElem? h2))
    (fun i j hij hTi hTj hi hj b hb => by
      rcases hTi with ⟨k, hk, rfl⟩ | ⟨i, hil, rfl⟩ <;> rcases hTj with ⟨l, hl, rfl⟩ | ⟨j, hjl, rfl⟩
      · rw [C2_f k hk] at hb; rw [C2_f l hl]
        obtain ⟨_, _, blk2, _, _, _, h4, _⟩ := hbeh k hk
        obtain ⟨_, _, blk3, _, _, _, h5, _⟩ := hbeh l hl
        exact HQ.apart k l (fun e => hij (by rw [e])) (by rw [hq1 k hk, h4]; simp) (by rw [hq1 l hl, h5]; simp) b hb
      · rw [C2_f k hk] at hb
        obtain ⟨blk, cb, h1, h2⟩ := getcb j hjl
        rw [C2_n j cb h2]
        intro hbj
        obtain ⟨_, _, blk2, _, _, _, h4, _⟩ := hbeh k hk
        exact HQ.apart k V (by omega) (by rw [hq1 k hk, h4]; simp) (by simp) b hb (by rw [hCV]; exact cbS j cb h2 b hbj)
      · rw [C2_f l hl]
        obtain ⟨blk, cb, h1, h2⟩ := getcb i hil
        rw [C2_n i cb h2] at hb
        intro hbj
        obtain ⟨_, _, blk2, _, _, _, h4, _⟩ := hbeh l hl
        exact HQ.apart l V (by omega) (by rw [hq1 l hl, h4]; simp) (by simp) b hbj (by rw [hCV]; exact cbS i cb h2 b hb)
      · obtain ⟨blk, cb, h1, h2⟩ := getcb i hil
        obtain ⟨blk', cb', h1', h2'⟩ := getcb j hjl
        rw [C2_n i cb h2] at hb
        rw [C2_n j cb' h2']
        intro hbj
        have := SN
        rw [← hS] at this
        have key := (nodup_flat this).2
        have hne : i ≠ j := fun e => hij (by rw [e])
        rcases Nat.lt_or_gt_of_ne hne with h | h
        · exact key i j cb cb' h h2 h2' b hb hbj
        · exact key j i cb' cb h h2' h2 b hbj hb)
  have hstab : st = true → ∀ b, Stab (upd chp' V (some .held)) Cq w' b → Stab hp2 C2 w' b := fun hs b hb => by
    have hsn := hst1 hs
    have hno : ¬ Own (upd chp' V (some .held)) Cq b := fun ⟨k, hk, hbk⟩ => hb.2.2 k hk hbk
    have hU : (intoC w σ.hp C f V sn).U b := by have := hb.2.1; rw [hfr.U] at this; exact this
    refine ⟨hb.1, ?_, fun id hid hbS => ?_⟩
    · show C.U b
      rcases hU with h | h | ⟨k, hk, h⟩ | ⟨id, hid, hi, h⟩
      · exact hcc.heap.up b h
      · exact h.2.1
      · exact hcc.heap.inU _ (al k hk) b h
      · exact hcc.heap.inU _ hi b h
    · by_cases hT : T id
      · exact hno (ownT id hT b hbS)
      · rw [C2_o id (notT id hT).1 (notT id hT).2] at hbS
        rw [hp2_o id (notT id hT).1 (notT id hT).2] at hid
        rcases hU with h | h | ⟨k, hk, h⟩ | ⟨id', hid', hi', h⟩
        · have := hcc.heap.lt hid b hbS; omega
        · exact h.2.2 id hid hbS
        · exact hcc.heap.apart id (f k) ((notT id hT).1 k hk) hid (al k hk) b hbS h
        · rw [hsn] at hid'; simp at hid'
  have B : Back w' (upd chp' V (some .held)) Cq hp2 C2 f V st := ⟨hstab, fun k hk blk hb => ⟨hp2_f k hk blk (by rw [hq1 k hk] at hb; exact hb), C2_f k hk⟩⟩
  have hrep : ∀ id blk, T id → hp2 id = some blk → BRep w' hp2 C2 id blk := fun id blk hT hi => by
    rcases hT with ⟨k, hk, rfl⟩ | ⟨i, hil, rfl⟩
    · obtain ⟨_, _, blk2, _, _, _, h4, _⟩ := hbeh k hk
      rw [hp2_f k hk blk2 h4] at hi
      obtain rfl := Option.some.inj hi
      have hr := HQ.rep k blk2 (by rw [hq1 k hk, h4])
      have hfl := hst3 k hk blk2 h4
      have hrf := hrefs' k hk blk2 h4
      cases blk2 with
      | dead => simp only [Blk.ren, BRep] at hr ⊢; rw [C2_f k hk]; exact hr
      | held => simp only [Blk.ren, BRep] at hr ⊢; rw [C2_f k hk]; exact hr
      | box cells =>
        obtain ⟨b, arr, te, k1, k2, k3, k4⟩ := hr
        simp only [Blk.ren]
        exact ⟨b, arr, te, by rw [C2_f k hk]; exact k1, by rw [C2_f k hk]; exact k2, k3, VReps.back B (by simpa [Blk.refs] using hrf) (by simpa [Blk.flat] using hfl) k4⟩
      | row x ver e xs =>
        simp only [Blk.ren, BRep] at hr ⊢
        rw [C2_f k hk]
        split
        · rename_i hx; simp only [hx, if_true] at hr; exact hr
        · rename_i hx; simp only [hx] at hr
          obtain ⟨k1, k2, k3, te, vals, own, k4⟩ := hr
          have hs : st = true := by simpa [Blk.flat, hx] using hfl
          exact ⟨k1, k2, k3, te, vals, own, fun j d u hd hu => (k4 j d u hd hu).mono fun b hb => ⟨hstab hs b hb, rfl⟩⟩
    · obtain ⟨blk', cb, h1, h2⟩ := getcb i hil
      rw [hp2_n i blk' h1] at hi
      obtain rfl := Option.some.inj hi
      obtain ⟨e, xs, rfl, hx⟩ := hnew i _ cb h1 h2
      simp only [BRep, if_true]
      rw [C2_n i cb h2]; exact hx
  have H2 := hHC hrep
  have hv := hback N hp2 C2 B hp2_n C2_n
  exact ⟨C2, hcc.put o.dst hE hv H2, hE, hF⟩

end Go.Al
