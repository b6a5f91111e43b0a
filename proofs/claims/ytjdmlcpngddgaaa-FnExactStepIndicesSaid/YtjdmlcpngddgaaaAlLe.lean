/- The abstract logic, part 11: saying less. -/
import Derived.Test.YtjdmlcpngddgaaaAlGo
set_option linter.unusedVariables false
set_option linter.unusedSimpArgs false
namespace Go.Al
open Go Go.RowKit

def tmOk (hp hq : Hp) (sn : List Nat) (l : Tm) : Tm → Prop
  | [] => True
  | p :: l' => argOk hp hq (fun i => i) sn (tmA l p.1) p.2 ∧ tmOk hp hq sn l l'
def hlOk (hp hq : Hp) (sn : List Nat) : Hl → Hl → Prop
  | _, [] => True
  | _ :: h, none :: h' => hlOk hp hq sn h h'
  | [], none :: h' => hlOk hp hq sn [] h'
  | some b :: h, some b' :: h' => blkOk hp hq (fun i => i) sn b b' ∧ hlOk hp hq sn h h'
  | _, some _ :: _ => False

theorem tmOk_at {hp hq : Hp} {sn : List Nat} {l : Tm} : ∀ {l' : Tm}, tmOk hp hq sn l l' → ∀ t, argOk hp hq (fun i => i) sn (tmA l t) (tmA l' t)
  | [], _, t => by simp only [tmA]; cases tmA l t <;> simp [argOk]
  | p :: l', h, t => by
    obtain ⟨h1, h2⟩ := h
    obtain ⟨k, v⟩ := p
    simp only [tmA]
    split
    · rename_i hb
      rw [Nat.eq_of_beq_eq_true hb]; exact h1
    · exact tmOk_at h2 t
theorem hlOk_at {hp hq : Hp} {sn : List Nat} : ∀ {h h' : Hl}, hlOk hp hq sn h h' → ∀ i b', hpL h' i = some b' → ∃ b, hpL h i = some b ∧ blkOk hp hq (fun i => i) sn b b'
  | h, [], _, i, b', e => by simp [hpL] at e
  | [], none :: h', hk, i, b', e => by
    cases i with
    | zero => simp [hpL] at e
    | succ i =>
      simp only [hlOk] at hk
      obtain ⟨b, h1, _⟩ := hlOk_at hk i b' (by simpa [hpL] using e)
      simp [hpL] at h1
  | x :: h, none :: h', hk, i, b', e => by
    cases i with
    | zero => simp [hpL] at e
    | succ i =>
      simp only [hlOk] at hk
      obtain ⟨b, h1, h2⟩ := hlOk_at hk i b' (by simpa [hpL] using e)
      exact ⟨b, by simpa [hpL] using h1, h2⟩
  | some c :: h, some c' :: h', hk, i, b', e => by
    simp only [hlOk] at hk
    cases i with
    | zero => simp [hpL] at e; subst e; exact ⟨c, by simp [hpL], hk.1⟩
    | succ i =>
      obtain ⟨b, h1, h2⟩ := hlOk_at hk.2 i b' (by simpa [hpL] using e)
      exact ⟨b, by simpa [hpL] using h1, h2⟩
  | [], some c :: h', hk, i, b', e => by simp [hlOk] at hk
  | none :: h, some c :: h', hk, i, b', e => by simp [hlOk] at hk

theorem Le.weak {V nt : Nat} {l l' : Tm} {h h' : Hl} (sn : List Nat) (ht : tmOk (hpL h) (hpL h') sn l l') (hh : hlOk (hpL h) (hpL h') sn h h') (hs : ∀ i ∈ sn, hpL h' i = none)
    (hV : ∀ i, i < V → (hpL h i).isSome = true → (hpL h' i).isSome = true) : Le V ⟨nt, tmA l, hpL h⟩ ⟨nt, tmA l', hpL h'⟩ := by
  intro C a w hc
  have H := hc.heap
  have al : ∀ i, hpL h' i ≠ none → hpL h i ≠ none := fun i hi => by
    cases e : hpL h' i with
    | none => exact absurd e hi
    | some b' => obtain ⟨b, h1, _⟩ := hlOk_at hh i b' e; simp [h1]
  have st : ∀ b, Stab (hpL h) C w b → Stab (hpL h') C w b := fun b hb => ⟨hb.1, hb.2.1, fun i hi => hb.2.2 i (al i hi)⟩
  have I : Into w (hpL h) C (hpL h') C (fun i => i) sn := ⟨H, st, fun id hid hi b hb => ⟨H.lt hi b hb, H.inU id hi b hb, fun j hj hbj => by
      refine H.apart id j (fun e => ?_) hi (al j hj) b hb hbj
      subst e; exact hj (hs _ hid)⟩, fun k hk => by
      obtain ⟨b', e⟩ := Option.isSome_iff_exists.1 hk
      obtain ⟨b, h1, h2⟩ := hlOk_at hh k b' e
      exact ⟨b, b', sn, h1, e, h2, rfl⟩⟩
  have HC : HConc w (hpL h') C := by
    refine ⟨H.up, fun i hi => H.inU i (al i hi), fun i blk' hi => ?_, fun i hi => H.nodup i (al i hi), fun i j hij hi hj => H.apart i j hij (al i hi) (al j hj)⟩
    obtain ⟨blk, h1, h3⟩ := hlOk_at hh i blk' hi
    have hr := H.rep _ _ h1
    cases blk <;> cases blk' <;> simp only [blkOk] at h3
    · exact hr
    · exact hr
    · obtain ⟨b, arr, te, k1, k2, k3, k4⟩ := hr
      exact ⟨b, arr, te, k1, k2, k3, argsOk_rep I k4 h3⟩
    · obtain ⟨rfl, rfl, rfl, rfl⟩ := h3
      simp only [BRep] at hr ⊢
      split
      · rename_i hx; simp only [hx, if_true] at hr; exact hr
      · rename_i hx; simp only [hx] at hr
        obtain ⟨k1, k2, k3, te, vals, own, k4⟩ := hr
        exact ⟨k1, k2, k3, te, vals, own, fun j d u hd hu => (k4 j d u hd hu).mono fun b hb => ⟨st b hb, rfl⟩⟩
  refine ⟨C, ⟨hc.defers, hc.size, fun t v hv => argOk_rep I (hc.tmps t v hv) (tmOk_at ht t), HC⟩, ⟨rfl, rfl, rfl, rfl, Nat.le_refl _, fun _ _ _ => rfl, fun b ⟨i, hi, hb⟩ => .inl ⟨i, al i hi, hb⟩, fun _ => rfl⟩, fun i hi blk hb => ?_⟩
  obtain ⟨blk', e⟩ := Option.isSome_iff_exists.1 (hV i hi (by simp only at hb; simp [hb]))
  obtain ⟨b, h1, h2⟩ := hlOk_at hh i blk' e
  simp only at hb
  rw [hb] at h1
  obtain rfl := Option.some.inj h1
  refine ⟨blk', e, ?_⟩
  cases blk <;> cases blk' <;> simp only [blkOk] at h2 <;> try (simp [IdEv]; done)
  obtain ⟨rfl, rfl, rfl, rfl⟩ := h2
  exact ⟨rfl, Nat.le_refl _, fun _ => rfl, Nat.le_refl _, fun _ b hb => ⟨hb, rfl⟩⟩

/-! ### A function's proof -/
def argA : Nat → List AV → Tm
  | _, [] => []
  | i, a :: as => (i, a) :: argA (i + 1) as
theorem argA_at : ∀ (as : List AV) (i t : Nat), tmA (argA i as) t = (if i ≤ t then as.getD (t - i) .any else .any)
  | [], i, t => by simp [argA, tmA]
  | a :: as, i, t => by
    simp only [argA, tmA]
    split
    · rename_i hb
      have := Nat.eq_of_beq_eq_true hb
      subst this; simp
    · rename_i hb
      have := Nat.ne_of_beq_eq_false hb
      rw [argA_at as (i + 1) t]
      by_cases h1 : i + 1 ≤ t
      · rw [if_pos h1, if_pos (by omega), show t - i = (t - (i + 1)) + 1 by omega]; simp
      · rw [if_neg h1, if_neg (by omega)]

theorem hpL_take (V : Nat) (h : Hl) : keepV V (hpL h) = hpL (h.take V) := by
  funext i
  simp only [keepV, hpL, List.getD_eq_getElem?_getD, List.getElem?_take]
  split <;> simp

theorem acall_go {P : Program} {f : FuncId} {fn : Func} {c : Code} {V : Nat} {args : List AV} {h : Hl} {r : AV} {h' : Hl} (hf : P.funcs[f]? = some fn) (hname : (fn.name == "runtime.NumGoroutine") = false) (hb : fn.body = some c) (hn : args.length ≤ fn.ntmps)
    (hg : AGo P V (endQ P V fn r (hpL h')) [.code c] .normal ⟨fn.ntmps, tmA (argA 0 args), hpL h⟩) : ACall P V f args (hpL h) r (hpL h') := by
  refine acall_of hf hname hb hn (AWp.le ?_ (c := c) (Q := endQ P V fn r (hpL h')) hg)
  intro C a w hc
  refine ⟨C, ⟨hc.defers, hc.size, fun t v hv => ?_, hc.heap⟩, Gone.refl ..⟩
  have := hc.tmps t v hv
  simp only at this ⊢
  rw [argA_at]
  simp only [Nat.zero_le, if_true, Nat.sub_zero]
  by_cases hl : t < args.length
  · have e : args.getD t .any = args.getD t .und := by simp [List.getD_eq_getElem?_getD, hl]
    rw [e]; exact this
  · have e : args.getD t AV.any = .any := by simp [List.getD_eq_getElem?_getD, Nat.le_of_not_lt hl]
    rw [e]; simp [VRep]

/-- At a 'return', or at the body's end. -/
theorem goRet {P : Program} {V : Nat} {Q : Exit → St → Prop} {σ : St} {k : List Kf} (h : Q .ret σ) : AGo P V Q (.code .ret :: k) .normal σ := by
  simp only [AGo]
  exact AWp.ret (AGo.ret_all h k)
theorem goInv {P : Program} {V : Nat} {Q : Exit → St → Prop} {σ : St} {k : List Kf} {R : St → Prop} (h : R σ) : AGo P V Q (.inv R :: k) .normal σ := by
  simp only [AGo]; exact h
theorem goIf {P : Program} {V nt : Nat} {Q : Exit → St → Prop} {k : List Kf} {l : Tm} {h : Hl} {c : Operand} {x y : Code} {t : Bool} (hc : (St.mk nt (tmA l) (hpL h)).ev c = .bool t)
    (hx : t = true → AGo P V Q (.code x :: k) .normal ⟨nt, tmA l, hpL h⟩) (hy : t = false → AGo P V Q (.code y :: k) .normal ⟨nt, tmA l, hpL h⟩) :
    AGo P V Q (.code (.cond c x y) :: k) .normal ⟨nt, tmA l, hpL h⟩ := AGo.cond hc hx hy
theorem tmA_same {l : Tm} {t : Tmp} {v : AV} (h : tmA l t = v) : tmA ((t, v) :: l) = tmA l := by
  funext i
  simp only [tmA]
  split
  · rename_i hb; rw [Nat.eq_of_beq_eq_true hb]; exact h.symm
  · rfl
theorem goGuard {P : Program} {V nt : Nat} {Q : Exit → St → Prop} {k : List Kf} {l : Tm} {h : Hl} {os : Array Oper} {o : Oper} {r : List Oper} {j : Nat} {want : Bool} {t : Tmp} {b : Bool}
    (hg : o.guard = some (j, want)) (ht : (os[j]?).bind (·.dst) = some t) (hv : tmA l t = .bool b)
    (h1 : b = true → AGo P V Q (.ops os (o :: r) :: k) .normal ⟨nt, tmA ((t, .bool true) :: l), hpL h⟩)
    (h2 : b = false → AGo P V Q (.ops os (o :: r) :: k) .normal ⟨nt, tmA ((t, .bool false) :: l), hpL h⟩) : AGo P V Q (.ops os (o :: r) :: k) .normal ⟨nt, tmA l, hpL h⟩ := by
  cases b with
  | true => rw [← tmA_same hv]; exact h1 rfl
  | false => rw [← tmA_same hv]; exact h2 rfl

/-- Any operation, told by hand. -/
theorem goOp {P : Program} {V nt : Nat} {Q : Exit → St → Prop} {k : List Kf} {l : Tm} {h h' : Hl} {os : Array Oper} {o : Oper} {r : List Oper} {d : Tmp} {v : AV} {ws : List (Nat × Blk)}
    (hd : o.dst = some d) (hw : wantedA os o ⟨nt, tmA l, hpL h⟩ = some true) (ho : OpOk P o ⟨nt, tmA l, hpL h⟩ ⟨v, ws⟩) (hh : writes (hpL h) ws = hpL h')
    (hg : AGo P V Q (.ops os r :: k) .normal ⟨nt, tmA ((d, v) :: l), hpL h'⟩) : AGo P V Q (.ops os (o :: r) :: k) .normal ⟨nt, tmA l, hpL h⟩ := by
  refine AGo.op hw ho ?_
  simpa [St.app, St.put, hd, tmA_upd, hh] using hg
theorem goOp0 {P : Program} {V nt : Nat} {Q : Exit → St → Prop} {k : List Kf} {l : Tm} {h h' : Hl} {os : Array Oper} {o : Oper} {r : List Oper} {v : AV} {ws : List (Nat × Blk)}
    (hd : o.dst = none) (hw : wantedA os o ⟨nt, tmA l, hpL h⟩ = some true) (ho : OpOk P o ⟨nt, tmA l, hpL h⟩ ⟨v, ws⟩) (hh : writes (hpL h) ws = hpL h')
    (hg : AGo P V Q (.ops os r :: k) .normal ⟨nt, tmA l, hpL h'⟩) : AGo P V Q (.ops os (o :: r) :: k) .normal ⟨nt, tmA l, hpL h⟩ := by
  refine AGo.op hw ho ?_
  simpa [St.app, St.put, hd, hh] using hg

/-- An element of a slice that is only read. -/
theorem goAt {P : Program} {F : Ty} [hF : TyF P F] {V nt : Nat} {Q : Exit → St → Prop} {k : List Kf} {l : Tm} {h : Hl} {os : Array Oper} {o : Oper} {r : List Oper} {d : Tmp}
    {t et : TypeId} {x i : Operand} {m : Md} {xs : List (List D)} {kk : IntKind} {n : Int} {cs : List D}
    (hd : o.dst = some d) (hw : wantedA os o ⟨nt, tmA l, hpL h⟩ = some true) (ho : o.op = .indexAddr t x i) (hx : (St.mk nt (tmA l) (hpL h)).ev x = .sl m xs) (hi : (St.mk nt (tmA l) (hpL h)).ev i = .int kk n)
    (hl : live (hpL h) m = true) (h0 : 0 ≤ n) (hc : xs[n.toNat]? = some cs) (he : elOf F t = some et) (hs : szOf F et = some cs.length) (hp : 0 < cs.length)
    (hg : AGo P V Q (.ops os r :: k) .normal ⟨nt, tmA ((d, .iptr m cs) :: l), hpL h⟩) : AGo P V Q (.ops os (o :: r) :: k) .normal ⟨nt, tmA l, hpL h⟩ := by
  have e := hF.eq
  subst e
  refine goOp hd hw (ok_indexAddr (v := .iptr m cs) ho ?_) rfl hg
  simp only [hx, hi, evIndexAddr, h0, hl, hc, he, hs, hp, if_true, Option.bind_some, and_self]

def news (bs : List Blk) (h : Hl) : Hl := h ++ bs.map some
theorem writes_new : ∀ (bs : List Blk) (h : Hl), writes (hpL h) ((List.range bs.length).map fun i => (h.length + i, bs.getD i .dead)) = hpL (news bs h)
  | [], h => by simp [writes, news]
  | b :: bs, h => by
    have := writes_new bs (h ++ [some b])
    simp only [List.length_cons, List.range_succ_eq_map, List.map_cons, List.map_map, writes, List.foldl_cons, Nat.add_zero, List.getD_cons_zero] at this ⊢
    rw [hpL_new]
    simp only [news, List.map_cons] at this ⊢
    rw [show h ++ some b :: bs.map some = (h ++ [some b]) ++ bs.map some by simp, ← this]
    congr 1
    refine List.map_congr_left fun i _ => ?_
    simp [Nat.add_assoc, Nat.add_comm 1 i]

def appsK {β : Type} : Hl → List Blk → (Hl → β) → β
  | h, [], k => k h
  | h, b :: bs, k => appK h (some b) fun h' => appsK h' bs k
theorem appsK_eq {β : Type} : ∀ (bs : List Blk) (h : Hl) (k : Hl → β), appsK h bs k = k (news bs h)
  | [], h, k => by simp [appsK, news]
  | b :: bs, h, k => by simp only [appsK, appK_eq, appsK_eq bs]; simp [news]
def impK (h : Hl) (res : AV) : Option (AV × Hl) := freshK h ids none fun N => nfT (impT (fun i => i) N res) fun v => appsK h (newsT res) fun h' => some (v, h')
theorem impK_some {h h' : Hl} {res v : AV} (e : impK h res = some (v, h')) : impT (fun i => i) h.length res = v ∧ news (newsT res) h = h' := by
  unfold impK at e
  rw [ids_eq] at e
  by_cases hl : h.length < 60
  · rw [freshK_eq h 60 0 _ _ hl, nfT_eq, appsK_eq] at e
    simp at e
    exact e
  · rw [freshK_none h 60 0 _ _ (by omega)] at e
    simp at e

/-- A call that is handed nothing by reference. -/
theorem goCall {P : Program} {V nt : Nat} {Q : Exit → St → Prop} {k : List Kf} {l : Tm} {h : Hl} {os : Array Oper} {o : Oper} {r : List Oper} {d : Tmp} {fo : Operand} {args : Array Operand} {ats : Array TypeId}
    {g : FuncId} {caps pargs : List AV} {res v : AV} {h' : Hl} (sn : List Nat)
    (hd : o.dst = some d) (hw : wantedA os o ⟨nt, tmA l, hpL h⟩ = some true) (ho : o.op = .call { callee := .value fo, args := args, argTypes := ats }) (hf : (St.mk nt (tmA l) (hpL h)).ev fo = .fn g caps)
    (hc : ACall P 0 g pargs (hpL []) res (hpL [])) (ha : argsOk (hpL h) (hpL []) (fun i => i) sn (args.toList.map (St.mk nt (tmA l) (hpL h)).ev ++ caps) pargs)
    (hst : sn = [] ∨ res.flat = true) (hr : res.refs = []) (hi : impK h res = some (v, h'))
    (hg : AGo P V Q (.ops os r :: k) .normal ⟨nt, tmA ((d, v) :: l), hpL h'⟩) : AGo P V Q (.ops os (o :: r) :: k) .normal ⟨nt, tmA l, hpL h⟩ := by
  obtain ⟨rfl, rfl⟩ := impK_some hi
  refine goOp hd hw (ok_call (N := h.length) ho hf hc ha ⟨fun k hk => absurd hk (by omega), fun k _ => rfl, fun i j hi => absurd hi (by omega), fun id _ k hk => absurd hk (by omega)⟩
    (fun i _ => by simp [hpL]) (hst.imp_right fun h => ⟨h, fun k hk => absurd hk (by omega)⟩) (by simp [hr]) (fun k hk => absurd hk (by omega))) ?_ hg
  simp only [backs, List.range_zero, List.map_nil, List.nil_append, newWs]
  exact writes_new _ h

/-- The end of a body. -/
theorem AGo.fin {P : Program} {V nt : Nat} {fn : Func} {r : AV} {l : Tm} {h h' : Hl} {vs : List AV} (hr : evRes (tyI P) ⟨nt, tmA l, hpL h⟩ fn.results.toList = some vs) (ho : expOkT V (hpL h) (joinA vs) r)
    (hn : (expET (joinA vs) r).Nodup) (hG : ∀ g ∈ expGT (joinA vs) r, g ∉ expET (joinA vs) r)
    (hrf : ∀ id blk, id < V → hpL h id = some blk → ∀ i ∈ blk.refs, i < V) (hh : h' = h.take V) : endQ P V fn r (hpL h') .ret ⟨nt, tmA l, hpL h⟩ :=
  ⟨vs, hr, ho, hn, hG, hrf, by rw [hh, hpL_take]⟩

/-- Results that are no memory. -/
def scal : AV → Bool
  | .int _ _ => true
  | .bool _ => true
  | .str _ => true
  | .nilp => true
  | _ => false
def res1 (o : Option (List AV)) : Option AV := match o with
  | some l => (match l with
    | [v] => nf1 v some
    | _ => none)
  | none => none
theorem res1_some {o : Option (List AV)} {v : AV} (h : res1 o = some v) : o = some [v] := by
  unfold res1 at h
  split at h
  · split at h
    · rw [nf1_eq] at h; rw [Option.some.inj h]
    · simp at h
  · simp at h
theorem fin_scal {P : Program} {F : Ty} [hF : TyF P F] {nt : Nat} {fn : Func} {r v : AV} {l : Tm} {h : Hl} (hr : res1 (evRes F ⟨nt, tmA l, hpL h⟩ fn.results.toList) = some v) (hs : scal r = true) (e : v = r) :
    AEnd P 0 fn r (hpL []) ⟨nt, tmA l, hpL h⟩ := by
  subst e
  replace hr := res1_some hr
  rw [hF.eq] at hr
  have h1 : expET v v = [] := by cases v <;> simp [scal] at hs <;> rfl
  refine ⟨[v], hr, ?_, ?_, ?_, fun id blk h => absurd h (by omega), by rw [hpL_take]; rfl⟩
  · cases v <;> simp [scal] at hs <;> simp [joinA, expOkT, expOkA, expOk]
  · simp only [joinA, h1]; exact List.nodup_nil
  · simp only [joinA, h1]; simp
def resN (o : Option (List AV)) : Option AV := match o with
  | some l => nfT (joinA l) some
  | none => none
theorem fin_any {P : Program} {F : Ty} [hF : TyF P F] {nt : Nat} {fn : Func} {r v : AV} {l : Tm} {h : Hl} (hr : resN (evRes F ⟨nt, tmA l, hpL h⟩ fn.results.toList) = some v) (ho : expOkT 0 (hpL h) v r) (hn : (expET v r).Nodup)
    (hG : ∀ g ∈ expGT v r, g ∉ expET v r) : AEnd P 0 fn r (hpL []) ⟨nt, tmA l, hpL h⟩ := by
  rw [hF.eq] at hr
  unfold resN at hr
  split at hr
  · rename_i vs hvs
    rw [nfT_eq] at hr
    obtain rfl := Option.some.inj hr
    exact ⟨vs, hvs, ho, hn, hG, fun id blk h => absurd h (by omega), by rw [hpL_take]; rfl⟩
  · simp at hr
theorem goFin {P : Program} {F : Ty} [hF : TyF P F] {nt : Nat} {fn : Func} {r v : AV} {l : Tm} {h : Hl} {k : List Kf} (hr : resN (evRes F ⟨nt, tmA l, hpL h⟩ fn.results.toList) = some v) (ho : expOkT 0 (hpL h) v r) (hn : (expET v r).Nodup)
    (hG : ∀ g ∈ expGT v r, g ∉ expET v r) : AGo P 0 (endQ P 0 fn r (hpL [])) (.code .ret :: k) .normal ⟨nt, tmA l, hpL h⟩ := goRet (fin_any (F := F) hr ho hn hG)
theorem goFinN {P : Program} {F : Ty} [hF : TyF P F] {nt : Nat} {fn : Func} {r v : AV} {l : Tm} {h : Hl} (hr : resN (evRes F ⟨nt, tmA l, hpL h⟩ fn.results.toList) = some v) (ho : expOkT 0 (hpL h) v r) (hn : (expET v r).Nodup)
    (hG : ∀ g ∈ expGT v r, g ∉ expET v r) : AGo P 0 (endQ P 0 fn r (hpL [])) [] .normal ⟨nt, tmA l, hpL h⟩ := by
  simp only [AGo]; exact fin_any (F := F) hr ho hn hG
theorem goDone {P : Program} {F : Ty} [hF : TyF P F] {nt : Nat} {fn : Func} {r v : AV} {l : Tm} {h : Hl} {k : List Kf} (hr : res1 (evRes F ⟨nt, tmA l, hpL h⟩ fn.results.toList) = some v) (hs : scal r = true) (e : v = r) :
    AGo P 0 (endQ P 0 fn r (hpL [])) (.code .ret :: k) .normal ⟨nt, tmA l, hpL h⟩ := goRet (fin_scal (F := F) hr hs e)
theorem goDoneN {P : Program} {F : Ty} [hF : TyF P F] {nt : Nat} {fn : Func} {r v : AV} {l : Tm} {h : Hl} (hr : res1 (evRes F ⟨nt, tmA l, hpL h⟩ fn.results.toList) = some v) (hs : scal r = true) (e : v = r) :
    AGo P 0 (endQ P 0 fn r (hpL [])) [] .normal ⟨nt, tmA l, hpL h⟩ := by
  simp only [AGo]; exact fin_scal (F := F) hr hs e

theorem goLe {P : Program} {V nt : Nat} {Q : Exit → St → Prop} {k : List Kf} {l l' : Tm} {h h' : Hl} {c : Code} (hl : Le V ⟨nt, tmA l, hpL h⟩ ⟨nt, tmA l', hpL h'⟩) (hg : AGo P V Q (.code c :: k) .normal ⟨nt, tmA l', hpL h'⟩) :
    AGo P V Q (.code c :: k) .normal ⟨nt, tmA l, hpL h⟩ := AGo.le hl hg
theorem goLoop {P : Program} {V nt : Nat} {Q : Exit → St → Prop} {k : List Kf} {l : Tm} {h : Hl} {c : Code} {X : Type} (S : X → Tm) (H : X → Hl) (μ : X → Nat) (x0 : X)
    (h0 : Le V ⟨nt, tmA l, hpL h⟩ ⟨nt, tmA (S x0), hpL (H x0)⟩)
    (round : ∀ x, AGo P V Q (.code c :: .inv (fun σ' => ∃ x', μ x' < μ x ∧ Le V σ' ⟨nt, tmA (S x'), hpL (H x')⟩) :: k) .normal ⟨nt, tmA (S x), hpL (H x)⟩) :
    AGo P V Q (.code (.loop c) :: k) .normal ⟨nt, tmA l, hpL h⟩ :=
  AGo.le h0 (AGo.loop (fun x => ⟨nt, tmA (S x), hpL (H x)⟩) μ x0 round)
theorem Le.same {nt : Nat} {l l' : Tm} {h : Hl} (ht : tmOk (hpL h) (hpL []) [] l l') : Le 0 ⟨nt, tmA l, hpL h⟩ ⟨nt, tmA l', hpL []⟩ :=
  Le.weak [] ht (by cases h <;> trivial) (by simp) (fun i hi => absurd hi (by omega))
theorem wrap64 {n : Int} (h : -9223372036854775808 ≤ n) (h' : n ≤ 9223372036854775807) : IntKind.i64.wrap n = n := by
  rw [wrap_iff]
  simp only [IntKind.min, IntKind.max, IntKind.bits, IntKind.signed]
  simp; omega

/-! ### The table of types that a text works with -/
def tyO : List (Nat × TyI) → Ty → Ty
  | [], g, t => g t
  | p :: l, g, t => match Nat.beq t p.1 with
    | true => some p.2
    | false => tyO l g t
def tyAll (P : Program) : List (Nat × TyI) → Prop
  | [] => True
  | p :: l => tyI P p.1 = some p.2 ∧ tyAll P l
theorem tyO_eq {P : Program} : ∀ {l : List (Nat × TyI)}, tyAll P l → tyO l (tyI P) = tyI P
  | [], _ => rfl
  | p :: l, h => by
    funext t
    simp only [tyO]
    split
    · rename_i hb
      rw [Nat.eq_of_beq_eq_true hb]; exact h.1.symm
    · rw [tyO_eq h.2]

end Go.Al
