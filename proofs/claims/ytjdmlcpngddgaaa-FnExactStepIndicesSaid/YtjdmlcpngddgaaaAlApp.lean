/- The abstract logic, part 22: append, slices that are built, an empty row in nil's place. -/
import Derived.Test.YtjdmlcpngddgaaaAlNil
set_option linter.unusedVariables false
set_option linter.unusedSimpArgs false
namespace Go.Al
open Go Go.RowKit

theorem fresh_eq {h : Hl} {N : Nat} (hN : freshK h ids none some = some N) : N = h.length := by
  rw [ids_eq] at hN
  by_cases hl : h.length < 60
  · rw [freshK_eq h 60 0 _ _ hl] at hN; simp at hN; exact hN.symm
  · rw [freshK_none h 60 0 _ _ (by omega)] at hN; simp at hN
theorem writes_cons (hp : Hp) (p : Nat × Blk) (ws : List (Nat × Blk)) : writes hp (p :: ws) = writes (upd hp p.1 (some p.2)) ws := rfl
theorem lowss_alive {x : Bool} {hp : Hp} : ∀ {cs : List (List AV)} {ys : List (List D)} {is : List Nat}, lowss x hp cs = some (ys, is) → ∀ j ∈ is, hp j ≠ none
  | [], ys, is, h, j, hj => by simp [lowss] at h; rw [h.2] at hj; simp at hj
  | c :: cs, ys, is, h, j, hj => by
    simp only [lowss] at h
    split at h
    · rename_i d i ds is' h3 h4
      simp at h
      obtain ⟨rfl, rfl⟩ := h
      rcases List.mem_append.1 hj with hj | hj
      · obtain ⟨_, _, _, _, hb⟩ := lows_alive h3 j hj
        simp [hb]
      · exact lowss_alive h4 j hj
    · simp at h
theorem feeds_alive {x : Bool} {hp : Hp} {e : Nat} {a : AV} {ys : List (List D)} {is : List Nat} (h : Feeds x hp e a ys is) : ∀ j ∈ is, hp j ≠ none := by
  cases h with
  | rowIn hy hi hlen => intro j hj; simp at hj; subst hj; simp [hi]
  | _ => simp
theorem kills_new {h h' : Hl} {b : Blk} {is : List Nat} (hk : appK h (some b) (fun h1 => setsK h1 (kills is) some) = some h') (hal : ∀ j ∈ is, hpL h j ≠ none) : writes (hpL h) ((h.length, b) :: kills is) = hpL h' := by
  rw [appK_eq] at hk
  rw [writes_cons]
  show writes (upd (hpL h) h.length (some b)) (kills is) = _
  rw [hpL_new]
  refine setsK_some hk fun p hp => ?_
  simp only [kills, List.mem_map] at hp
  obtain ⟨j, hj, rfl⟩ := hp
  have := hal j hj
  cases hb : hpL h j with
  | none => exact absurd hb this
  | some c => have := hpL_lt hb; simp; omega
theorem kills_old {h h' : Hl} {id : Nat} {b b0 : Blk} {is : List Nat} (hk : setsK h ((id, b) :: kills is) some = some h') (hi : hpL h id = some b0) (hal : ∀ j ∈ is, hpL h j ≠ none) : writes (hpL h) ((id, b) :: kills is) = hpL h' := by
  refine setsK_some hk fun p hp => ?_
  rcases List.mem_cons.1 hp with rfl | hp
  · exact hpL_lt hi
  · simp only [kills, List.mem_map] at hp
    obtain ⟨j, hj, rfl⟩ := hp
    have := hal j hj
    cases hb : hpL h j with
    | none => exact absurd hb this
    | some c => exact hpL_lt hb

section
variable {P : Program} {F : Ty} [hF : TyF P F] {V nt : Nat} {Q : Exit → St → Prop} {k : List Kf} {l : Tm} {h h' : Hl} {os : Array Oper} {o : Oper} {r : List Oper} {d : Tmp}

theorem build_ok {t et : TypeId} {n e : Nat} {parts : Array (Nat × Operand)} {zc : List AV} {cs : List (List AV)} {ys : List (List D)} {is : List Nat} {N : Nat} (x : Bool)
    (ho : o.op = .buildSlice t n parts) (ht : elOf F t = some et) (hs : szOf F et = some e) (hz : zrOf F et = some zc) (h0 : 0 < e) (hN : freshK h ids none some = some N)
    (hp : parts.toList.map (·.1) = List.range' 0 n) (hcs : cellss (parts.toList.map fun p => (St.mk nt (tmA l) (hpL h)).ev p.2) = some cs) (hce : cs.all (fun c => Nat.beq c.length e) = true) (hl : lowss x (hpL h) cs = some (ys, is)) (hnd : nodupB is = true) (hsmall : n * e ≤ 16777216)
    (hk : appK h (some (.row x 1 e ys)) (fun h1 => setsK h1 (kills is) some) = some h') : ∃ ws, OpOk P o ⟨nt, tmA l, hpL h⟩ ⟨.row N n, ws⟩ ∧ writes (hpL h) ws = hpL h' ∧ ws ≠ [] := by
  have hFe := hF.eq
  subst hFe
  obtain rfl := fresh_eq hN
  refine ⟨_, ok_buildSlice (N := h.length) ho ht hs hz h0 (hpL_fresh h) hp hcs (fun c hc => Nat.eq_of_beq_eq_true (List.all_eq_true.1 hce c hc)) hl (nodupB_ok hnd) hsmall, kills_new hk (lowss_alive hl), by simp⟩
theorem goBuild {t et : TypeId} {n e : Nat} {parts : Array (Nat × Operand)} {zc : List AV} {cs : List (List AV)} {ys : List (List D)} {is : List Nat} {N : Nat} (x : Bool)
    (hd : o.dst = some d) (hw : wantedA os o ⟨nt, tmA l, hpL h⟩ = some true) (ho : o.op = .buildSlice t n parts) (ht : elOf F t = some et) (hs : szOf F et = some e) (hz : zrOf F et = some zc) (h0 : 0 < e) (hN : freshK h ids none some = some N)
    (hp : parts.toList.map (·.1) = List.range' 0 n) (hcs : cellss (parts.toList.map fun p => (St.mk nt (tmA l) (hpL h)).ev p.2) = some cs) (hce : cs.all (fun c => Nat.beq c.length e) = true) (hl : lowss x (hpL h) cs = some (ys, is)) (hnd : nodupB is = true) (hsmall : n * e ≤ 16777216)
    (hk : appK h (some (.row x 1 e ys)) (fun h1 => setsK h1 (kills is) some) = some h')
    (hg : AGo P V Q (.ops os r :: k) .normal ⟨nt, tmA ((d, .row N n) :: l), hpL h'⟩) : AGo P V Q (.ops os (o :: r) :: k) .normal ⟨nt, tmA l, hpL h⟩ := by
  obtain ⟨ws, h1, h2, _⟩ := build_ok (P := P) (F := F) x ho ht hs hz h0 hN hp hcs hce hl hnd hsmall hk
  exact goOp hd hw h1 h2 hg

theorem app_ok {s y : Operand} {t et : TypeId} {e bytes : Nat} {zc : List AV} {x : Bool} {id len ver : Nat} {xs ys : List (List D)} {is : List Nat}
    (ho : o.op = .call { callee := .builtin .append, args := #[s, y], argTypes := #[t, t] }) (ht : elOf F t = some et) (hs : szOf F et = some e) (hb : byOf F et = some bytes) (hz : zrOf F et = some zc) (hzs : zc.length = e) (h0 : 0 < e)
    (hx : (St.mk nt (tmA l) (hpL h)).ev s = .row id len) (hi : hpL h id = some (.row x ver e xs)) (hlen : xs.length = len) (hfd : Feeds x (hpL h) e ((St.mk nt (tmA l) (hpL h)).ev y) ys is) (hnot : is.contains id = false) (hsize : (len + ys.length) * bytes ≤ 140737488355328) (hb0 : 0 < bytes)
    (hk : setsK h ((id, .row x (ver + 1) e (xs ++ ys)) :: kills is) some = some h') : ∃ ws, OpOk P o ⟨nt, tmA l, hpL h⟩ ⟨.row id (len + ys.length), ws⟩ ∧ writes (hpL h) ws = hpL h' ∧ ws ≠ [] := by
  have hFe := hF.eq
  subst hFe
  subst hlen
  have hl63 : xs.length + ys.length ≤ 9223372036854775807 := by
    have := Nat.le_mul_of_pos_right (xs.length + ys.length) hb0
    omega
  exact ⟨_, ok_append (N := h.length) ho ht hs hb hz hzs h0 (by rw [hx]; exact .row hi rfl) hfd (by simpa using hnot) hsize hl63, kills_old hk hi (feeds_alive hfd), by simp⟩
theorem appN_ok {s y : Operand} {t et : TypeId} {e bytes : Nat} {zc : List AV} {ys : List (List D)} {is : List Nat} {N : Nat} (x : Bool)
    (ho : o.op = .call { callee := .builtin .append, args := #[s, y], argTypes := #[t, t] }) (ht : elOf F t = some et) (hs : szOf F et = some e) (hb : byOf F et = some bytes) (hz : zrOf F et = some zc) (hzs : zc.length = e) (h0 : 0 < e)
    (hx : (St.mk nt (tmA l) (hpL h)).ev s = .nil) (hN : freshK h ids none some = some N) (hfd : Feeds x (hpL h) e ((St.mk nt (tmA l) (hpL h)).ev y) ys is) (hsize : ys.length * bytes ≤ 140737488355328) (hb0 : 0 < bytes)
    (hk : appK h (some (.row x 1 e ys)) (fun h1 => setsK h1 (kills is) some) = some h') : ∃ ws, OpOk P o ⟨nt, tmA l, hpL h⟩ ⟨.row N ys.length, ws⟩ ∧ writes (hpL h) ws = hpL h' ∧ ws ≠ [] := by
  have hFe := hF.eq
  subst hFe
  obtain rfl := fresh_eq hN
  have hl63 : ys.length ≤ 9223372036854775807 := by
    have := Nat.le_mul_of_pos_right ys.length hb0
    omega
  have hnot : h.length ∉ is := fun hm => by
    have := feeds_alive hfd _ hm
    exact this (hpL_fresh h)
  have := ok_append (N := h.length) (x := x) (xs := []) ho ht hs hb hz hzs h0 (by rw [hx]; exact .new (hpL_fresh h)) hfd hnot (by simpa using hsize) (by simpa using hl63)
  simp only [List.length_nil, Nat.zero_add, List.nil_append] at this
  exact ⟨_, this, kills_new hk (feeds_alive hfd), by simp⟩
/-- An append to a row that the call owns. -/
theorem goApp {s y : Operand} {t et : TypeId} {e bytes : Nat} {zc : List AV} {x : Bool} {id len ver : Nat} {xs ys : List (List D)} {is : List Nat}
    (hd : o.dst = some d) (hw : wantedA os o ⟨nt, tmA l, hpL h⟩ = some true) (ho : o.op = .call { callee := .builtin .append, args := #[s, y], argTypes := #[t, t] }) (ht : elOf F t = some et) (hs : szOf F et = some e) (hb : byOf F et = some bytes) (hz : zrOf F et = some zc) (hzs : zc.length = e) (h0 : 0 < e)
    (hx : (St.mk nt (tmA l) (hpL h)).ev s = .row id len) (hi : hpL h id = some (.row x ver e xs)) (hlen : xs.length = len) (hfd : Feeds x (hpL h) e ((St.mk nt (tmA l) (hpL h)).ev y) ys is) (hnot : is.contains id = false) (hsize : (len + ys.length) * bytes ≤ 140737488355328) (hb0 : 0 < bytes)
    (hk : setsK h ((id, .row x (ver + 1) e (xs ++ ys)) :: kills is) some = some h')
    (hg : AGo P V Q (.ops os r :: k) .normal ⟨nt, tmA ((d, .row id (len + ys.length)) :: l), hpL h'⟩) : AGo P V Q (.ops os (o :: r) :: k) .normal ⟨nt, tmA l, hpL h⟩ := by
  obtain ⟨ws, h1, h2, _⟩ := app_ok (P := P) (F := F) ho ht hs hb hz hzs h0 hx hi hlen hfd hnot hsize hb0 hk
  exact goOp hd hw h1 h2 hg
/-- An append to nil. -/
theorem goAppN {s y : Operand} {t et : TypeId} {e bytes : Nat} {zc : List AV} {ys : List (List D)} {is : List Nat} {N : Nat} (x : Bool)
    (hd : o.dst = some d) (hw : wantedA os o ⟨nt, tmA l, hpL h⟩ = some true) (ho : o.op = .call { callee := .builtin .append, args := #[s, y], argTypes := #[t, t] }) (ht : elOf F t = some et) (hs : szOf F et = some e) (hb : byOf F et = some bytes) (hz : zrOf F et = some zc) (hzs : zc.length = e) (h0 : 0 < e)
    (hx : (St.mk nt (tmA l) (hpL h)).ev s = .nil) (hN : freshK h ids none some = some N) (hfd : Feeds x (hpL h) e ((St.mk nt (tmA l) (hpL h)).ev y) ys is) (hsize : ys.length * bytes ≤ 140737488355328) (hb0 : 0 < bytes)
    (hk : appK h (some (.row x 1 e ys)) (fun h1 => setsK h1 (kills is) some) = some h')
    (hg : AGo P V Q (.ops os r :: k) .normal ⟨nt, tmA ((d, .row N ys.length) :: l), hpL h'⟩) : AGo P V Q (.ops os (o :: r) :: k) .normal ⟨nt, tmA l, hpL h⟩ := by
  obtain ⟨ws, h1, h2, _⟩ := appN_ok (P := P) (F := F) x ho ht hs hb hz hzs h0 hx hN hfd hsize hb0 hk
  exact goOp hd hw h1 h2 hg
end

/-! ### The same in drawn regions -/
section
variable {P : Program} {F : Ty} [hF : TyF P F] {V nt : Nat} {Q : Exit → St → Prop} {k : List Kf} {id0 : Nat} {ops : List Oper} {l0 : Tm} {h0' : Hl} {o : Oper} {rest : List Oper} {E : List De} {hs' : List Hl} {l lo : Tm} {h h' : Hl} {d : Tmp}
theorem dgoLoud {v : AV} (hlo : onlyK l (opTs ops o) some = some lo) (hd : o.dst = some d) (hw : wantedA ⟨ops⟩ o ⟨nt, tmA lo, hpL h⟩ = some true)
    (hok : ∃ ws, OpOk P o ⟨nt, tmA lo, hpL h⟩ ⟨v, ws⟩ ∧ writes (hpL h) ws = hpL h' ∧ ws ≠ []) (hg : DGo P V nt Q k id0 ops l0 h0' rest (E ++ [⟨o, lo, true, v, true, none⟩]) (hs' ++ [h]) ((d, v) :: l) h') :
    DGo P V nt Q k id0 ops l0 h0' (o :: rest) E hs' l h := by
  obtain ⟨ws, h1, h2, h3⟩ := hok
  refine dgoOp hlo hd hw h1 ?_ h2 hg
  cases ws with
  | nil => exact absurd rfl h3
  | cons => rfl
end

/-! ### An empty row in nil's place -/
theorem ownsNil (w : World) (te : TypeId) (e : Nat) : w.ownsRow 0 te e (.slice none 0 0) 0 [] := ⟨by simp, .inl ⟨rfl, rfl⟩⟩
theorem brep_nil {w : World} {hp : Hp} {C : Co} {N e : Nat} (x : Bool) (he : 0 < e) (hC : C N = ⟨.slice none 0 0, []⟩) : BRep w hp C N (.row x 0 e []) := by
  simp only [BRep, hC]
  split
  · exact ⟨by simp, he, 0, [], [], ownsNil w 0 e, rfl, rfl, by simp⟩
  · exact ⟨by simp, he, rfl, 0, [], ownsNil w 0 e, by simp⟩
/-- A variable's part that is nil is told as an empty row. -/
theorem Le.matBox {V nt : Nat} {l : Tm} {h h' : Hl} {id j e : Nat} {x : Bool} {cells : List AV} (he : 0 < e) (hb : hpL h id = some (.box cells)) (hc : cells[j]? = some .nil)
    (hk : setK h id (some (.box (cells.set j (.row h.length 0)))) (fun h1 => appK h1 (some (.row x 0 e [])) some) = some h') : Le V ⟨nt, tmA l, hpL h⟩ ⟨nt, tmA l, hpL h'⟩ := by
  rw [setK_eq, appK_eq] at hk
  obtain rfl := Option.some.inj hk
  have hlt := hpL_lt hb
  have hne : id ≠ h.length := by omega
  have heq : hpL (h.set id (some (.box (cells.set j (.row h.length 0)))) ++ [some (.row x 0 e [])]) = upd (upd (hpL h) id (some (.box (cells.set j (.row h.length 0))))) h.length (some (.row x 0 e [])) := by
    rw [hpL_set h _ hlt]
    have := hpL_new (h.set id (some (.box (cells.set j (.row h.length 0))))) (.row x 0 e [])
    rw [List.length_set] at this
    exact this.symm
  rw [heq]
  intro C a w hcc
  have H := hcc.heap
  simp only at H
  let C' := C.set h.length ⟨.slice none 0 0, []⟩
  have CN : C' h.length = ⟨.slice none 0 0, []⟩ := Co.set_same ..
  have Co' : ∀ i, i ≠ h.length → C' i = C i := fun i hi => Co.set_ne C _ hi
  generalize hhp2 : upd (upd (hpL h) id (some (.box (cells.set j (.row h.length 0))))) h.length (some (.row x 0 e [])) = hp2
  have hN : hp2 h.length = some (.row x 0 e []) := by rw [← hhp2]; exact upd_same ..
  have hid : hp2 id = some (.box (cells.set j (.row h.length 0))) := by rw [← hhp2, upd_ne _ _ hne]; exact upd_same ..
  have ho : ∀ i, i ≠ id → i ≠ h.length → hp2 i = hpL h i := fun i h1 h2 => by rw [← hhp2, upd_ne _ _ h2, upd_ne _ _ h1]
  obtain ⟨E, Fr', HC⟩ := turn_conc (w' := w) (hp' := hp2) (C' := C') (fun i => i = id ∨ i = h.length) H rfl rfl rfl rfl (Nat.le_refl _) (fun _ => rfl) (fun _ _ _ => rfl)
    (fun i hi => ⟨ho i (fun e => hi (.inl e)) (fun e => hi (.inr e)), Co' i (fun e => hi (.inr e))⟩)
    (fun i blk hi hb' => by
      rcases hi with rfl | rfl
      · rw [hb] at hb'
        obtain rfl := Option.some.inj hb'
        exact ⟨_, hid, by rw [Co' i hne]; rfl⟩
      · rw [hpL_fresh] at hb'; simp at hb')
    (fun i hi _ b hbs => by
      rcases hi with rfl | rfl
      · rw [Co' i hne] at hbs
        exact .inr ⟨i, .inl rfl, by rw [hb]; simp, hbs⟩
      · rw [CN] at hbs; simp at hbs)
    (fun i hi _ => by
      rcases hi with rfl | rfl
      · rw [Co' i hne]; exact H.nodup i (by rw [hb]; simp)
      · rw [CN]; exact List.nodup_nil)
    (fun i i' hii hi hi' _ _ b hbs => by
      rcases hi with rfl | rfl
      · rcases hi' with rfl | rfl
        · exact absurd rfl hii
        · rw [CN]; simp
      · rw [CN] at hbs; simp at hbs)
  have HC2 := HC fun i blk hi hb' => by
    rcases hi with rfl | rfl
    · rw [hid] at hb'
      obtain rfl := Option.some.inj hb'
      obtain ⟨b, arr, te, k1, k2, k3, k4⟩ := H.rep _ _ hb
      refine ⟨b, arr, te, by rw [Co' i hne]; exact k1, by rw [Co' i hne]; exact k2, k3, ?_⟩
      have hcells := VReps.ev E k4
      have hj : j < arr.toList.length := by rw [← k4.length]; exact (List.getElem?_eq_some_iff.1 hc).1
      have hv := hcells.at hc (List.getElem?_eq_getElem hj)
      simp only [VRep] at hv
      have hset := hcells.set j (a := .row h.length 0) (v := arr.toList[j]) (by
        simp only [VRep, hN, CN]
        rw [hv]
        exact ⟨⟨_, _, _, rfl⟩, Nat.zero_le _, fun _ => rfl⟩)
      rwa [List.set_getElem_self] at hset
    · rw [hN] at hb'
      obtain rfl := Option.some.inj hb'
      exact brep_nil x he CN
  exact ⟨C', ⟨hcc.defers, hcc.size, fun t v hv => VRep.ev E (hcc.tmps t v hv), HC2⟩, Fr', E.vev⟩
/-- A temporary that is nil is told as an empty row. -/
theorem Le.matTmp {V nt : Nat} {l : Tm} {h h' : Hl} {t e : Nat} {x : Bool} (he : 0 < e) (hb : tmA l t = .nil) (hk : appK h (some (.row x 0 e [])) some = some h') : Le V ⟨nt, tmA l, hpL h⟩ ⟨nt, tmA ((t, .row h.length 0) :: l), hpL h'⟩ := by
  rw [appK_eq] at hk
  obtain rfl := Option.some.inj hk
  rw [← hpL_new]
  intro C a w hcc
  have H := hcc.heap
  simp only at H
  let C' := C.set h.length ⟨.slice none 0 0, []⟩
  have CN : C' h.length = ⟨.slice none 0 0, []⟩ := Co.set_same ..
  have Co' : ∀ i, i ≠ h.length → C' i = C i := fun i hi => Co.set_ne C _ hi
  have hN : upd (hpL h) h.length (some (.row x 0 e [])) h.length = some (.row x 0 e []) := upd_same ..
  obtain ⟨E, Fr', HC⟩ := turn_conc (w' := w) (hp' := upd (hpL h) h.length (some (.row x 0 e []))) (C' := C') (fun i => i = h.length) H rfl rfl rfl rfl (Nat.le_refl _) (fun _ => rfl) (fun _ _ _ => rfl)
    (fun i hi => ⟨upd_ne _ _ hi, Co' i hi⟩)
    (fun i blk hi hb' => by subst hi; rw [hpL_fresh] at hb'; simp at hb')
    (fun i hi _ b hbs => by subst hi; rw [CN] at hbs; simp at hbs)
    (fun i hi _ => by subst hi; rw [CN]; exact List.nodup_nil)
    (fun i i' hii hi hi' _ _ b hbs => by subst hi; rw [CN] at hbs; simp at hbs)
  have HC2 := HC fun i blk hi hb' => by
    subst hi
    rw [hN] at hb'
    obtain rfl := Option.some.inj hb'
    exact brep_nil x he CN
  refine ⟨C', ⟨hcc.defers, hcc.size, fun s v hv => ?_, HC2⟩, Fr', E.vev⟩
  have h1 := hcc.tmps s v hv
  simp only at h1 ⊢
  simp only [tmA]
  split
  · rename_i hs
    rw [Nat.eq_of_beq_eq_true hs, hb] at h1
    simp only [VRep] at h1
    simp only [VRep, hN, CN]
    rw [h1]
    exact ⟨⟨_, _, _, rfl⟩, Nat.zero_le _, fun _ => rfl⟩
  · exact VRep.ev E h1
theorem goMatBox {P : Program} {V nt : Nat} {Q : Exit → St → Prop} {k : List Kf} {c : Code} {l : Tm} {h h' : Hl} {cells cells' : List AV} {N : Nat} (id j e : Nat) (x : Bool) (he : 0 < e) (hb : hpL h id = some (.box cells)) (hc : cells[j]? = some .nil) (hN : freshK h ids none some = some N)
    (hcs : nfL (cells.set j (.row N 0)) some = some cells') (hk : setK h id (some (.box cells')) (fun h1 => appK h1 (some (.row x 0 e [])) some) = some h') (hg : AGo P V Q (.code c :: k) .normal ⟨nt, tmA l, hpL h'⟩) : AGo P V Q (.code c :: k) .normal ⟨nt, tmA l, hpL h⟩ := by
  obtain rfl := fresh_eq hN
  rw [nfL_eq] at hcs
  obtain rfl := Option.some.inj hcs
  exact AGo.le (Le.matBox he hb hc hk) hg
theorem goMatTmp {P : Program} {V nt : Nat} {Q : Exit → St → Prop} {k : List Kf} {c : Code} {l : Tm} {h h' : Hl} {N : Nat} (t e : Nat) (x : Bool) (he : 0 < e) (hb : tmA l t = .nil) (hN : freshK h ids none some = some N)
    (hk : appK h (some (.row x 0 e [])) some = some h') (hg : AGo P V Q (.code c :: k) .normal ⟨nt, tmA ((t, .row N 0) :: l), hpL h'⟩) : AGo P V Q (.code c :: k) .normal ⟨nt, tmA l, hpL h⟩ := by
  obtain rfl := fresh_eq hN
  exact AGo.le (Le.matTmp he hb hk) hg
end Go.Al
namespace Go.Al
/-- A list that is written anew from the front: f 0, f 1, .. in place of the first i elements. -/
def marked {β : Type} (f : Nat → β) (xs : List β) (i : Nat) : List β := (List.range i).map f ++ xs.drop i
theorem marked_zero {β : Type} (f : Nat → β) (xs : List β) : marked f xs 0 = xs := rfl
theorem marked_len {β : Type} {f : Nat → β} {xs : List β} {i : Nat} (h : i ≤ xs.length) : (marked f xs i).length = xs.length := by simp [marked]; omega
theorem marked_at {β : Type} {f : Nat → β} {xs : List β} {i : Nat} {x : β} (h : xs[i]? = some x) : (marked f xs i)[i]? = some x := by
  have hi := (List.getElem?_eq_some_iff.1 h).1
  unfold marked
  rw [List.getElem?_append_right (by simp), List.getElem?_drop]
  simpa using h
theorem marked_set {β : Type} {f : Nat → β} {xs : List β} {i : Nat} (h : i < xs.length) : (marked f xs i).set i (f i) = marked f xs (i + 1) := by
  unfold marked
  rw [List.set_append_right _ _ (by simp), List.range_succ, List.map_append]
  simp only [List.length_map, List.length_range, Nat.sub_self, List.map_cons, List.map_nil, List.append_assoc, List.singleton_append]
  congr 1
  rw [List.drop_eq_getElem_cons h]
  rfl
theorem marked_all {β : Type} {f : Nat → β} {xs : List β} : marked f xs xs.length = (List.range xs.length).map f := by simp [marked]
theorem marked_done {β : Type} {f : Nat → β} {xs : List β} {n : Nat} (h : xs.length = n) : marked f xs n = (List.range n).map f := by subst h; exact marked_all
theorem range_at {β : Type} {f : Nat → β} {n i : Nat} (h : i < n) : ((List.range n).map f)[i]? = some (f i) := by
  rw [List.getElem?_map, List.getElem?_range h]; rfl
end Go.Al
namespace Go.Al
section
variable {F : Ty} {σ : St} {h : Hl} {o : Oper} {t et : TypeId} {x : Operand} {id len i off ver e n : Nat} {fl ag : Bool} {xs : List (List D)} {el : List D} {v : AV}
theorem evQ_len (ho : o.op = .call { callee := .builtin .len, args := #[x], argTypes := #[t] }) (hx : σ.ev x = .row id len) (hi : σ.hp id = some (.row fl ver e xs)) (hlen : xs.length = len) (he : elOf F t = some et) : evQ F σ h o = some (.int .i64 len, h) := by
  unfold evQ
  rw [ho]
  simp only [hx, evLen, hi, hlen, he, Option.isSome_some, and_self, if_true]
theorem evQ_ldR (ho : o.op = .load t x) (hx : σ.ev x = .rptr id len i off) (hi : σ.hp id = some (.row fl ver e xs)) (hlen : xs.length = len) (hel : xs[i]? = some el) (ha : agOf F t = some ag) (hs : szOf F t = some n)
    (hv : (if ag = true then (if n ≤ ((el.drop off).map (MD (if fl = true then .bor id ver else .st))).length then some (AV.agg (((el.drop off).map (MD (if fl = true then .bor id ver else .st))).take n)) else none) else ((el.drop off).map (MD (if fl = true then .bor id ver else .st)))[0]?) = some v) : evQ F σ h o = some (v, h) := by
  unfold evQ
  rw [ho]
  simp only [hx, evLoad, ha, hs, hi, hlen, hel, if_true]
  rw [hv]
theorem evQ_fdR {f : Nat} {o1 : Nat} (ho : o.op = .fieldAddr t x f) (hx : σ.ev x = .rptr id len i o1) (hi : σ.hp id = some (.row fl ver e xs)) (hlen : xs.length = len) (hf : fdOf F t f = some (off, et)) (hs : szOf F et = some (n + 1)) : evQ F σ h o = some (.rptr id len i (o1 + off), h) := by
  unfold evQ evPure
  rw [ho]
  simp only [hf, hs, hx, hi, hlen, if_true]
end
end Go.Al
namespace Go.Al
theorem range_snoc {β : Type} (f : Nat → β) (k : Nat) : (List.range k).map f ++ [f k] = (List.range (k + 1)).map f := by rw [List.range_succ, List.map_append]; rfl
theorem ev_shr {F : Ty} {t : TypeId} {k k' : IntKind} {a b : Int} (h : 0 ≤ b) (hw : k.wrap (a.fdiv (2 ^ (min b.toNat k.bits))) = a.fdiv (2 ^ (min b.toNat k.bits))) : evBin F .shr t (.int k a) (.int k' b) = some (.int k (a.fdiv (2 ^ (min b.toNat k.bits)))) := by
  simp only [evBin]; rw [if_neg (by omega), if_pos hw]
theorem and_mask64 (n r : Nat) (hr : r ≤ 32) (hn : n < 4294967296) : ((BitVec.ofInt 64 (n : Int)) &&& (BitVec.ofInt 64 (((2 ^ r : Nat) : Int) - 1))).toNat = n % 2 ^ r := by
  have hp : 2 ^ r ≤ 2 ^ 32 := Nat.pow_le_pow_right (by omega) hr
  have hp0 : 0 < 2 ^ r := Nat.pow_pos (by omega)
  have e1 : ((2 ^ r : Nat) : Int) - 1 = ((2 ^ r - 1 : Nat) : Int) := by omega
  rw [e1, BitVec.ofInt_natCast, BitVec.ofInt_natCast, BitVec.toNat_and, BitVec.toNat_ofNat, BitVec.toNat_ofNat, Nat.mod_eq_of_lt (show n < 2 ^ 64 by omega), Nat.mod_eq_of_lt (show 2 ^ r - 1 < 2 ^ 64 by omega), Nat.and_two_pow_sub_one_eq_mod]
theorem and_mask (n r : Nat) (hr : r ≤ 32) (hn : n < 4294967296) : IntKind.i64.wrap (((BitVec.ofInt IntKind.i64.bits (n : Int)) &&& (BitVec.ofInt IntKind.i64.bits (((2 ^ r : Nat) : Int) - 1))).toNat : Nat) = ((n % 2 ^ r : Nat) : Int) := by
  have h := and_mask64 n r hr hn
  have : n % 2 ^ r < 2 ^ r := Nat.mod_lt _ (Nat.pow_pos (by omega))
  have hp : 2 ^ r ≤ 2 ^ 32 := Nat.pow_le_pow_right (by omega) hr
  show IntKind.i64.wrap ((((BitVec.ofInt 64 (n : Int)) &&& (BitVec.ofInt 64 (((2 ^ r : Nat) : Int) - 1))).toNat : Nat) : Int) = _
  rw [h, wrap64 (by omega) (by omega)]
end Go.Al
namespace Go.Al
theorem wrapN {k : Nat} (h : k ≤ 4294967296) : IntKind.i64.wrap (k : Int) = k := wrap64 (by omega) (by omega)
end Go.Al
namespace Go.Al
/-- A loop that is left in its first round. -/
theorem goOnce {P : Program} {V nt : Nat} {Q : Exit → St → Prop} {k : List Kf} {c : Code} {l : Tm} {h : Hl} (hg : AGo P V Q (.code c :: .inv (fun _ => False) :: k) .normal ⟨nt, tmA l, hpL h⟩) : AGo P V Q (.code (.loop c) :: k) .normal ⟨nt, tmA l, hpL h⟩ := by
  refine AGo.loop (X := Unit) (fun _ => ⟨nt, tmA l, hpL h⟩) (fun _ => 0) () fun _ => ?_
  refine AGo.mono1 (fun e σ he => ?_) (.code c) _ _ hg
  cases e <;> simp only [AGo] at he ⊢ <;> exact he
end Go.Al
