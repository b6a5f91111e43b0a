/- The abstract logic, part 17: calls that are handed memory by reference; ends of functions that are. -/
import Derived.Test.YtjdmlcpngddgaaaAlStore
set_option linter.unusedVariables false
set_option linter.unusedSimpArgs false
namespace Go.Al
open Go Go.RowKit

def refF (is : List Nat) : Nat → Nat := fun k => is.getD k 0
def handOk (hp chp : Hp) (f : Nat → Nat) : List Nat → Hl → Prop
  | [], [] => True
  | i :: is, some b' :: ch => (∃ b, hp i = some b ∧ blkOk hp chp f [] b b') ∧ handOk hp chp f is ch
  | _, _ => False
theorem handOk_at {hp chp : Hp} {f : Nat → Nat} : ∀ {is : List Nat} {ch : Hl}, handOk hp chp f is ch → is.length = ch.length ∧ ∀ (k i : Nat), is[k]? = some i → ∃ b b', hp i = some b ∧ ch[k]? = some (some b') ∧ blkOk hp chp f [] b b'
  | [], [], _ => ⟨rfl, by simp⟩
  | i :: is, some b' :: ch, h => by
    simp only [handOk] at h
    obtain ⟨⟨b, h1, h2⟩, h3⟩ := h
    obtain ⟨h4, h5⟩ := handOk_at h3
    refine ⟨by simp [h4], fun k j hk => ?_⟩
    cases k with
    | zero => simp at hk; subst hk; exact ⟨b, b', h1, by simp, h2⟩
    | succ k =>
      obtain ⟨c, c', k1, k2, k3⟩ := h5 k j (by simpa using hk)
      exact ⟨c, c', k1, by simpa using k2, k3⟩
  | _ :: _, none :: _, h => by simp [handOk] at h
  | _ :: _, [], h => by simp [handOk] at h
  | [], _ :: _, h => by simp [handOk] at h
def nodupB : List Nat → Bool
  | [] => true
  | i :: is => is.all (fun j => !Nat.beq i j) && nodupB is
theorem nodupB_ok : ∀ {l : List Nat}, nodupB l = true → l.Nodup
  | [], _ => List.nodup_nil
  | i :: is, h => by
    simp only [nodupB, Bool.and_eq_true, List.all_eq_true] at h
    refine List.nodup_cons.2 ⟨fun hm => ?_, nodupB_ok h.2⟩
    have := h.1 i hm
    simp at this
def unsome : Hl → Option (List Blk)
  | [] => some []
  | some b :: h => match unsome h with
    | some bs => some (b :: bs)
    | none => none
  | none :: _ => none
theorem unsome_eq : ∀ {h : Hl} {bs : List Blk}, unsome h = some bs → h = bs.map some
  | [], bs, e => by simp [unsome] at e; subst e; rfl
  | some b :: h, bs, e => by
    simp only [unsome] at e
    split at e
    · rename_i bs' h1
      obtain rfl := Option.some.inj e
      simp [unsome_eq h1]
    · simp at e
  | none :: h, bs, e => by simp [unsome] at e
section
variable {β : Type}
def backK (f : Nat → Nat) : Hl → List Nat → List Blk → (Hl → β) → β
  | h, i :: is, b :: bs, k => nfB (b.ren f) fun b' => setK h i (some b') fun h' => backK f h' is bs k
  | h, _, _, k => k h
def backL (f : Nat → Nat) : Hl → List Nat → List Blk → Hl
  | h, i :: is, b :: bs => backL f (h.set i (some (b.ren f))) is bs
  | h, _, _ => h
theorem backK_eq (f : Nat → Nat) : ∀ (is : List Nat) (bs : List Blk) (h : Hl) (k : Hl → β), backK f h is bs k = k (backL f h is bs)
  | i :: is, b :: bs, h, k => by simp only [backK, backL, nfB_eq, setK_eq, backK_eq f is bs]
  | [], _, h, k => by simp [backK, backL]
  | _ :: _, [], h, k => by simp [backK, backL]
end
theorem backL_length (f : Nat → Nat) : ∀ (is : List Nat) (bs : List Blk) (h : Hl), (backL f h is bs).length = h.length
  | i :: is, b :: bs, h => by simp only [backL]; rw [backL_length f is bs]; simp
  | [], _, h => by simp [backL]
  | _ :: _, [], h => by simp [backL]
theorem writes_back (f : Nat → Nat) : ∀ (is : List Nat) (bs : List Blk) (h : Hl), (∀ i ∈ is, i < h.length) → writes (hpL h) ((is.zip bs).map fun p => (p.1, p.2.ren f)) = hpL (backL f h is bs)
  | i :: is, b :: bs, h, hl => by
    have ih := writes_back f is bs (h.set i (some (b.ren f))) fun j hj => by simpa using hl j (by simp [hj])
    simp only [List.zip_cons_cons, List.map_cons, backL]
    rw [← ih, ← hpL_set h _ (hl i (by simp))]
    rfl
  | [], _, h, _ => by simp [backL, writes]
  | _ :: _, [], h, _ => by simp [backL, writes]
def impKf (f : Nat → Nat) (h : Hl) (res : AV) : Option (AV × Hl) := freshK h ids none fun N => nfT (impT f N res) fun v => appsK h (newsT res) fun h' => some (v, h')
theorem impKf_some {f : Nat → Nat} {h h' : Hl} {res v : AV} (e : impKf f h res = some (v, h')) : impT f h.length res = v ∧ news (newsT res) h = h' := by
  unfold impKf at e
  rw [ids_eq] at e
  by_cases hl : h.length < 60
  · rw [freshK_eq h 60 0 _ _ hl, nfT_eq, appsK_eq] at e
    simp at e
    exact e
  · rw [freshK_none h 60 0 _ _ (by omega)] at e
    simp at e

theorem backs_zip {is : List Nat} {bs : List Blk} (hl : is.length = bs.length) : backs (refF is) is.length (hpL (bs.map some)) = (is.zip bs).map fun p => (p.1, p.2.ren (refF is)) := by
  refine List.ext_getElem? fun k => ?_
  simp only [backs, List.getElem?_map]
  by_cases hk : k < is.length
  · have hb : k < bs.length := by omega
    rw [List.getElem?_range hk]
    have hz : (is.zip bs)[k]? = some (is[k], bs[k]) := by
      rw [List.getElem?_eq_getElem (by simp; omega)]
      simp
    rw [hz]
    simp [refF, hpL, List.getD_eq_getElem?_getD, List.getElem?_eq_getElem hk, hb]
  · rw [List.getElem?_eq_none (by simp; omega), List.getElem?_eq_none (by simp; omega)]
    rfl

theorem refCall {P : Program} {V nt : Nat} {l : Tm} {h : Hl} {o : Oper} {fo : Operand} {args : Array Operand} {ats : Array TypeId}
    {g : FuncId} {caps pargs : List AV} {res v : AV} {h' ch ch' : Hl} {bs : List Blk} (is sn : List Nat)
    (ho : o.op = .call { callee := .value fo, args := args, argTypes := ats }) (hf : (St.mk nt (tmA l) (hpL h)).ev fo = .fn g caps)
    (hc : ACall P V g pargs (hpL ch) res (hpL ch')) (ha : argsOk (hpL h) (hpL ch) (refF is) sn (args.toList.map (St.mk nt (tmA l) (hpL h)).ev ++ caps) pargs)
    (hh : handOk (hpL h) (hpL ch) (refF is) is ch) (hV : is.length = V) (hnd : nodupB is = true) (hsn : sn.all (fun i => !is.contains i) = true)
    (hb : unsome ch' = some bs) (hbl : bs.length = V) (hst : sn = [] ∨ (res.flat = true ∧ bs.all Blk.flat = true))
    (hr : res.refs.all (Nat.blt · V) = true) (hr' : bs.all (fun b => b.refs.all (Nat.blt · V)) = true) (hi : backK (refF is) h is bs (fun h1 => impKf (refF is) h1 res) = some (v, h')) :
    ∃ ws, OpOk P o ⟨nt, tmA l, hpL h⟩ ⟨v, ws⟩ ∧ writes (hpL h) ws = hpL h' := by
  rw [backK_eq] at hi
  obtain ⟨h1, h2⟩ := impKf_some hi
  rw [backL_length] at h1
  subst h1
  obtain ⟨hcl, hat⟩ := handOk_at hh
  have e := unsome_eq hb
  have hf' : ∀ k, k < V → is[k]? = some (refF is k) := fun k hk => by
    simp only [refF, List.getD_eq_getElem?_getD]
    rw [List.getElem?_eq_getElem (by omega)]; simp
  have hin : ∀ i ∈ is, i < h.length := fun i hi => by
    obtain ⟨k, hk⟩ := List.getElem?_of_mem hi
    obtain ⟨b, _, h3, _⟩ := hat k i hk
    exact hpL_lt h3
  have hchp : ∀ k, k < V → ∀ blk, hpL ch' k = some blk → blk ∈ bs := fun k hk blk hbk => by
    rw [e] at hbk
    simp only [hpL, List.getD_eq_getElem?_getD, List.getElem?_map] at hbk
    cases hq : bs[k]? with
    | none => simp [hq] at hbk
    | some b => simp [hq] at hbk; subst hbk; exact List.mem_of_getElem? hq
  refine ⟨_, ok_call (N := h.length) (f := refF is) (V := V) (sn := sn) ho hf hc ha ?_ (fun i _ => by simp [hpL]) ?_ ?_ ?_, ?_⟩
  · refine ⟨fun k hk => ?_, fun k hk => ?_, fun i j hi hj hij => ?_, fun id hid k hk he => ?_⟩
    · obtain ⟨b, b', k1, k2, k3⟩ := hat k _ (hf' k hk)
      exact ⟨b, b', k1, by simp [hpL, List.getD_eq_getElem?_getD, k2], k3⟩
    · simp [hpL, List.getD_eq_getElem?_getD, List.getElem?_eq_none (show ch.length ≤ k by omega)]
    · have := nodupB_ok hnd
      have h3 := hf' i hi
      have h4 := hf' j hj
      rw [← hij] at h4
      exact (List.getElem?_inj (by omega) this).1 (h3.trans h4.symm)
    · have := List.all_eq_true.1 hsn id hid
      simp at this
      exact this (by rw [he]; exact List.mem_of_getElem? (hf' k hk))
  · refine hst.imp_right fun h => ⟨h.1, fun k hk blk hbk => List.all_eq_true.1 h.2 _ (hchp k hk blk hbk)⟩
  · intro id hid
    have := List.all_eq_true.1 hr id hid
    exact Nat.le_of_ble_eq_true this
  · intro k hk blk hbk id hid
    have := List.all_eq_true.1 (List.all_eq_true.1 hr' _ (hchp k hk blk hbk)) id hid
    exact Nat.le_of_ble_eq_true this
  · have hz := backs_zip (is := is) (bs := bs) (by omega)
    rw [hV] at hz
    rw [e, hz]
    have hap : ∀ (a b : List (Nat × Blk)) (hp : Hp), writes hp (a ++ b) = writes (writes hp a) b := fun a b hp => by simp [writes, List.foldl_append]
    rw [hap, writes_back _ _ _ _ hin]
    have hw := writes_new (newsT res) (backL (refF is) h is bs)
    rw [backL_length] at hw
    rw [show newWs h.length (newsT res) = (List.range (newsT res).length).map fun i => (h.length + i, (newsT res).getD i .dead) from rfl, hw, h2]

/-- A call that is handed blocks by reference: 'is' are the caller's names of the callee's blocks 0, 1, .. -/
theorem goCallRef {P : Program} {V W nt : Nat} {Q : Exit → St → Prop} {k : List Kf} {l : Tm} {h : Hl} {os : Array Oper} {o : Oper} {r : List Oper} {d : Tmp} {fo : Operand} {args : Array Operand} {ats : Array TypeId}
    {g : FuncId} {caps pargs : List AV} {res v : AV} {h' ch ch' : Hl} {bs : List Blk} (is sn : List Nat)
    (hd : o.dst = some d) (hw : wantedA os o ⟨nt, tmA l, hpL h⟩ = some true) (ho : o.op = .call { callee := .value fo, args := args, argTypes := ats }) (hf : (St.mk nt (tmA l) (hpL h)).ev fo = .fn g caps)
    (hc : ACall P V g pargs (hpL ch) res (hpL ch')) (ha : argsOk (hpL h) (hpL ch) (refF is) sn (args.toList.map (St.mk nt (tmA l) (hpL h)).ev ++ caps) pargs)
    (hh : handOk (hpL h) (hpL ch) (refF is) is ch) (hV : is.length = V) (hnd : nodupB is = true) (hsn : sn.all (fun i => !is.contains i) = true)
    (hb : unsome ch' = some bs) (hbl : bs.length = V) (hst : sn = [] ∨ (res.flat = true ∧ bs.all Blk.flat = true))
    (hr : res.refs.all (Nat.blt · V) = true) (hr' : bs.all (fun b => b.refs.all (Nat.blt · V)) = true) (hi : backK (refF is) h is bs (fun h1 => impKf (refF is) h1 res) = some (v, h'))
    (hg : AGo P W Q (.ops os r :: k) .normal ⟨nt, tmA ((d, v) :: l), hpL h'⟩) : AGo P W Q (.ops os (o :: r) :: k) .normal ⟨nt, tmA l, hpL h⟩ := by
  obtain ⟨ws, h1, h2⟩ := refCall is sn ho hf hc ha hh hV hnd hsn hb hbl hst hr hr' hi
  exact goOp hd hw h1 h2 hg
theorem goCallRef0 {P : Program} {V W nt : Nat} {Q : Exit → St → Prop} {k : List Kf} {l : Tm} {h : Hl} {os : Array Oper} {o : Oper} {r : List Oper} {fo : Operand} {args : Array Operand} {ats : Array TypeId}
    {g : FuncId} {caps pargs : List AV} {res v : AV} {h' ch ch' : Hl} {bs : List Blk} (is sn : List Nat)
    (hd : o.dst = none) (hw : wantedA os o ⟨nt, tmA l, hpL h⟩ = some true) (ho : o.op = .call { callee := .value fo, args := args, argTypes := ats }) (hf : (St.mk nt (tmA l) (hpL h)).ev fo = .fn g caps)
    (hc : ACall P V g pargs (hpL ch) res (hpL ch')) (ha : argsOk (hpL h) (hpL ch) (refF is) sn (args.toList.map (St.mk nt (tmA l) (hpL h)).ev ++ caps) pargs)
    (hh : handOk (hpL h) (hpL ch) (refF is) is ch) (hV : is.length = V) (hnd : nodupB is = true) (hsn : sn.all (fun i => !is.contains i) = true)
    (hb : unsome ch' = some bs) (hbl : bs.length = V) (hst : sn = [] ∨ (res.flat = true ∧ bs.all Blk.flat = true))
    (hr : res.refs.all (Nat.blt · V) = true) (hr' : bs.all (fun b => b.refs.all (Nat.blt · V)) = true) (hi : backK (refF is) h is bs (fun h1 => impKf (refF is) h1 res) = some (v, h'))
    (hg : AGo P W Q (.ops os r :: k) .normal ⟨nt, tmA l, hpL h'⟩) : AGo P W Q (.ops os (o :: r) :: k) .normal ⟨nt, tmA l, hpL h⟩ := by
  obtain ⟨ws, h1, h2⟩ := refCall is sn ho hf hc ha hh hV hnd hsn hb hbl hst hr hr' hi
  exact goOp0 hd hw h1 h2 hg

/-! ### Ends of functions that are handed memory by reference -/
def refsOk (V : Nat) : Hl → Bool
  | [] => true
  | some b :: h => b.refs.all (Nat.blt · V) && refsOk V h
  | none :: h => refsOk V h
def takeK {β : Type} : Nat → Hl → (Hl → β) → β
  | 0, _, k => k []
  | n + 1, x :: h, k => takeK n h fun h' => k (x :: h')
  | _ + 1, [], k => k []
theorem takeK_eq {β : Type} : ∀ (n : Nat) (h : Hl) (k : Hl → β), takeK n h k = k (h.take n)
  | 0, h, k => by simp [takeK]
  | n + 1, x :: h, k => by simp only [takeK, takeK_eq n]; simp
  | n + 1, [], k => by simp [takeK]
theorem refsOk_ok {V : Nat} : ∀ {h : Hl}, refsOk V h = true → ∀ b, some b ∈ h → ∀ i ∈ b.refs, i < V
  | [], _, b, hb => by simp at hb
  | some c :: h, e, b, hb => by
    simp only [refsOk, Bool.and_eq_true] at e
    rcases List.mem_cons.1 hb with hb | hb
    · cases hb
      exact fun i hi => Nat.le_of_ble_eq_true (List.all_eq_true.1 e.1 i hi)
    · exact refsOk_ok e.2 b hb
  | none :: h, e, b, hb => by
    simp only [refsOk] at e
    rcases List.mem_cons.1 hb with hb | hb
    · simp at hb
    · exact refsOk_ok e b hb
theorem fin_V {P : Program} {F : Ty} [hF : TyF P F] {V nt : Nat} {fn : Func} {r v : AV} {l : Tm} {h h' h2 : Hl} (hr : resN (evRes F ⟨nt, tmA l, hpL h⟩ fn.results.toList) = some v) (ho : expOkT V (hpL h) v r) (hn : (expET v r).Nodup)
    (hG : ∀ g ∈ expGT v r, g ∉ expET v r) (ht : takeK V h some = some h2) (hrf : refsOk V h2 = true) (hh : h2 = h') : AEnd P V fn r (hpL h') ⟨nt, tmA l, hpL h⟩ := by
  rw [hF.eq] at hr
  rw [takeK_eq] at ht
  obtain rfl := Option.some.inj ht
  subst hh
  unfold resN at hr
  split at hr
  · rename_i vs hvs
    rw [nfT_eq] at hr
    obtain rfl := Option.some.inj hr
    refine ⟨vs, hvs, ho, hn, hG, fun id blk hid hb => ?_, by rw [hpL_take]⟩
    refine refsOk_ok hrf blk ?_
    have hl := hpL_lt hb
    simp only [hpL, List.getD_eq_getElem?_getD, List.getElem?_eq_getElem hl, Option.getD_some] at hb
    exact List.mem_of_getElem? (i := id) (by rw [List.getElem?_take, if_pos hid, List.getElem?_eq_getElem hl, hb])
  · simp at hr
theorem goFinV {P : Program} {F : Ty} [hF : TyF P F] {V nt : Nat} {fn : Func} {r v : AV} {l : Tm} {h h' h2 : Hl} {k : List Kf} (hr : resN (evRes F ⟨nt, tmA l, hpL h⟩ fn.results.toList) = some v) (ho : expOkT V (hpL h) v r) (hn : (expET v r).Nodup)
    (hG : ∀ g ∈ expGT v r, g ∉ expET v r) (ht : takeK V h some = some h2) (hrf : refsOk V h2 = true) (hh : h2 = h') : AGo P V (endQ P V fn r (hpL h')) (.code .ret :: k) .normal ⟨nt, tmA l, hpL h⟩ := goRet (fin_V (F := F) hr ho hn hG ht hrf hh)
theorem goFinVN {P : Program} {F : Ty} [hF : TyF P F] {V nt : Nat} {fn : Func} {r v : AV} {l : Tm} {h h' h2 : Hl} (hr : resN (evRes F ⟨nt, tmA l, hpL h⟩ fn.results.toList) = some v) (ho : expOkT V (hpL h) v r) (hn : (expET v r).Nodup)
    (hG : ∀ g ∈ expGT v r, g ∉ expET v r) (ht : takeK V h some = some h2) (hrf : refsOk V h2 = true) (hh : h2 = h') : AGo P V (endQ P V fn r (hpL h')) [] .normal ⟨nt, tmA l, hpL h⟩ := by
  simp only [AGo]; exact fin_V (F := F) hr ho hn hG ht hrf hh
theorem scal_exp {V : Nat} {hp : Hp} {v : AV} (hs : scal v = true) : expOkT V hp v v ∧ (expET v v).Nodup ∧ ∀ g ∈ expGT v v, g ∉ expET v v := by
  have h1 : expET v v = [] := by cases v <;> simp [scal] at hs <;> rfl
  refine ⟨?_, by rw [h1]; exact List.nodup_nil, by rw [h1]; simp⟩
  cases v <;> simp [scal] at hs <;> simp [expOkT, expOkA, expOk]
theorem goDoneV {P : Program} {F : Ty} [hF : TyF P F] {V nt : Nat} {fn : Func} {r v : AV} {l : Tm} {h h' h2 : Hl} {k : List Kf} (hr : resN (evRes F ⟨nt, tmA l, hpL h⟩ fn.results.toList) = some v) (hs : scal r = true) (ht : takeK V h some = some h2) (hrf : refsOk V h2 = true)
    (e : v = r) (hh : h2 = h') : AGo P V (endQ P V fn r (hpL h')) (.code .ret :: k) .normal ⟨nt, tmA l, hpL h⟩ := by
  subst e
  obtain ⟨h1, h3, h4⟩ := scal_exp (V := V) (hp := hpL h) hs
  exact goFinV (F := F) hr h1 h3 h4 ht hrf hh
theorem goDoneVN {P : Program} {F : Ty} [hF : TyF P F] {V nt : Nat} {fn : Func} {r v : AV} {l : Tm} {h h' h2 : Hl} (hr : resN (evRes F ⟨nt, tmA l, hpL h⟩ fn.results.toList) = some v) (hs : scal r = true) (ht : takeK V h some = some h2) (hrf : refsOk V h2 = true)
    (e : v = r) (hh : h2 = h') : AGo P V (endQ P V fn r (hpL h')) [] .normal ⟨nt, tmA l, hpL h⟩ := by
  subst e
  obtain ⟨h1, h3, h4⟩ := scal_exp (V := V) (hp := hpL h) hs
  exact goFinVN (F := F) hr h1 h3 h4 ht hrf hh
end Go.Al
