/- The abstract logic, part 13: regions whose order is drawn. -/
import Derived.Test.YtjdmlcpngddgaaaAlFrame
set_option linter.unusedVariables false
set_option linter.unusedSimpArgs false
namespace Go.Al
open Go Go.RowKit

theorem wp_put {P : Program} {o : Oper} {a : Act} {w : World} {N : Act → World → Prop} {Q : Exit → Act → World → Prop} (h : o.wp P a w N Q) :
    o.wp P a w (fun a' w' => N a' w' ∧ ((∃ v, a' = a.put o.dst v) ∨ a'.defers ≠ [])) Q := by
  unfold Oper.wp at *
  generalize (execOp a.eval o).run P w = r at *
  cases r with
  | ok n w' =>
    cases n <;> simp only [Oper.upon] at h ⊢ <;>
      first
        | exact ⟨h, .inl ⟨_, rfl⟩⟩
        | exact ⟨h, .inr (by cases o.dst <;> simp [Act.put])⟩
        | exact Calls.mono h (fun e w'' he => by cases e <;> first | exact ⟨he, .inl ⟨_, rfl⟩⟩ | exact he)
        | exact Rows.mono h (fun _ _ he => ⟨he, .inl ⟨_, rfl⟩⟩)
  | halt x w' => cases x <;> simp only [Oper.upon] at h ⊢ <;> exact h

theorem OpOk.more {P : Program} {o : Oper} {nt : Nat} {tm0 tm : Nat → AV} {H : Hp} {out : Out} (h : OpOk P o ⟨nt, tm0, H⟩ out) (hsub : ∀ t, tm0 t = .any ∨ tm0 t = tm t) : OpOk P o ⟨nt, tm, H⟩ out := by
  intro C a w hc
  have hc0 : Conc ⟨nt, tm0, H⟩ C a w := ⟨hc.defers, hc.size, fun t v hv => by
    simp only
    rcases hsub t with e | e
    · rw [e]; simp [VRep]
    · rw [e]; exact hc.tmps t v hv, hc.heap⟩
  refine Oper.wp_mono (fun a' w' ⟨⟨C', k1, k2, k3⟩, k4⟩ => ?_) (wp_put (h C a w hc0))
  rcases k4 with ⟨u, rfl⟩ | k4
  · refine ⟨C', ⟨k1.defers, by simpa using k1.size, fun t v hv => ?_, k1.heap⟩, k2, k3⟩
    cases hd : o.dst with
    | none =>
      have hv0 := hc.tmps t v (by simpa [Act.put, hd] using hv)
      have := VRep.ev k2 hv0
      simpa [St.app, St.put, hd] using this
    | some d =>
      by_cases htd : t = d
      · subst htd
        have := k1.tmps t v hv
        simpa [St.app, St.put, hd] using this
      · have hv0 := hc.tmps t v (by
          have := hv
          simp only [Act.put, hd] at this
          rwa [Array.getElem?_setIfInBounds_ne (Ne.symm htd)] at this)
        have := VRep.ev k2 hv0
        simpa [St.app, St.put, hd, upd_ne _ _ htd] using this
  · exact absurd k1.defers k4

structure Done where
  o : Oper
  lo : Tm
  run : Bool
  v : AV
  ws : List (Nat × Blk)

def effT (d : Done) (tm : Nat → AV) : Nat → AV := match d.o.dst with
  | some t => upd tm t d.v
  | none => tm
theorem effT_ne {d : Done} {t : Nat} (h : d.o.dst ≠ some t) (tm : Nat → AV) : effT d tm t = tm t := by
  unfold effT
  cases hd : d.o.dst with
  | none => rfl
  | some t' => exact upd_ne _ _ (fun e => h (by rw [hd, e]))
def tmS : List Done → Nat → (Nat → Bool) → (Nat → AV) → Nat → AV
  | [], _, _, tm => tm
  | d :: ds, i, S, tm => tmS ds (i + 1) S (if S i = true then effT d tm else tm)
def hpS : List Done → Nat → (Nat → Bool) → Hp → Hp
  | [], _, _, hp => hp
  | d :: ds, i, S, hp => hpS ds (i + 1) S (if S i = true then writes hp d.ws else hp)

theorem tmS_congr : ∀ (T : List Done) (i : Nat) (S S' : Nat → Bool) (tm tm' : Nat → AV) (t : Nat), tm t = tm' t → (∀ j d, T[j]? = some d → d.o.dst = some t → S (i + j) = S' (i + j)) → tmS T i S tm t = tmS T i S' tm' t
  | [], i, S, S', tm, tm', t, h, _ => h
  | d :: ds, i, S, S', tm, tm', t, h, hS => by
    simp only [tmS]
    refine tmS_congr ds (i + 1) S S' _ _ t ?_ fun j d' hj hd => by have := hS (j + 1) d' (by simpa using hj) hd; rwa [show i + (j + 1) = i + 1 + j by omega] at this
    by_cases hd : d.o.dst = some t
    · have h0 := hS 0 d rfl hd
      simp only [Nat.add_zero] at h0
      rw [h0]
      split
      · simp [effT, hd]
      · exact h
    · have he : ∀ tm : Nat → AV, effT d tm t = tm t := effT_ne hd
      have : ∀ (b : Bool) (tm : Nat → AV), (if b = true then effT d tm else tm) t = tm t := fun b tm => by cases b <;> simp [he]
      rw [this, this, h]
theorem hpS_congr : ∀ (T : List Done) (i : Nat) (S S' : Nat → Bool) (hp : Hp), (∀ j d, T[j]? = some d → d.ws ≠ [] → S (i + j) = S' (i + j)) → hpS T i S hp = hpS T i S' hp
  | [], i, S, S', hp, _ => rfl
  | d :: ds, i, S, S', hp, hS => by
    simp only [hpS]
    have : (if S i = true then writes hp d.ws else hp) = (if S' i = true then writes hp d.ws else hp) := by
      by_cases hw : d.ws = []
      · simp [hw, writes]
      · have h0 := hS 0 d rfl hw
        simp only [Nat.add_zero] at h0
        rw [h0]
    rw [this]
    exact hpS_congr ds (i + 1) S S' _ fun j d' hj hd => by have := hS (j + 1) d' (by simpa using hj) hd; rwa [show i + (j + 1) = i + 1 + j by omega] at this

/-- One more. -/
theorem tmS_set : ∀ (T : List Done) (i k : Nat) (d : Done) (S S' : Nat → Bool) (tm : Nat → AV), T[k]? = some d → S (i + k) = false → S' (i + k) = true → (∀ j, j ≠ i + k → S' j = S j) →
    (∀ j d', k < j → T[j]? = some d' → S (i + j) = true → ∀ t, d.o.dst = some t → d'.o.dst ≠ some t) → tmS T i S' tm = effT d (tmS T i S tm)
  | [], i, k, d, S, S', tm, hk, _, _, _, _ => by simp at hk
  | e :: T, i, 0, d, S, S', tm, hk, h0, h1, hne, hl => by
    simp at hk; subst hk
    simp only [Nat.add_zero] at h0 h1
    simp only [tmS, h0, h1, if_true, Bool.false_eq_true, if_false]
    have hS : tmS T (i + 1) S' (effT e tm) = tmS T (i + 1) S (effT e tm) := by
      funext t
      exact tmS_congr T (i + 1) S' S _ _ t rfl fun j d' _ _ => hne _ (by omega)
    rw [hS]
    funext t
    cases hd : e.o.dst with
    | none => simp [effT, hd]
    | some t' =>
      by_cases ht : t = t'
      · subst ht
        have e1 : effT e (tmS T (i + 1) S tm) t = e.v := by simp [effT, hd]
        rw [e1]
        have : ∀ (T : List Done) (i : Nat) (tm : Nat → AV), (∀ j d', T[j]? = some d' → S (i + j) = true → d'.o.dst ≠ some t) → tmS T i S tm t = tm t := by
          intro T
          induction T with
          | nil => intro i tm _; rfl
          | cons d' T ih =>
            intro i tm hh
            simp only [tmS]
            rw [ih (i + 1) _ fun j d'' hj hs => hh (j + 1) d'' (by simpa using hj) (by rwa [show i + (j + 1) = i + 1 + j by omega])]
            split
            · rename_i hs
              exact effT_ne (hh 0 d' rfl (by simpa using hs)) _
            · rfl
        rw [this T (i + 1) _ fun j d' hj hs => hl (j + 1) d' (by omega) (by simpa using hj) (by rwa [show i + (j + 1) = i + 1 + j by omega]) t hd]
        simp [effT, hd]
      · have e1 : effT e (tmS T (i + 1) S tm) t = tmS T (i + 1) S tm t := by simp [effT, hd, upd_ne _ _ ht]
        rw [e1]
        exact tmS_congr T (i + 1) S S _ _ t (by simp [effT, hd, upd_ne _ _ ht]) fun _ _ _ _ => rfl
  | e :: T, i, k + 1, d, S, S', tm, hk, h0, h1, hne, hl => by
    simp only [tmS]
    rw [hne i (by omega)]
    exact tmS_set T (i + 1) k d S S' _ (by simpa using hk) (by rwa [show i + 1 + k = i + (k + 1) by omega]) (by rwa [show i + 1 + k = i + (k + 1) by omega])
      (fun j hj => hne j (by omega)) fun j d' hj hd hs t ht => hl (j + 1) d' (by omega) (by simpa using hd) (by rwa [show i + (j + 1) = i + 1 + j by omega]) t ht
theorem hpS_set : ∀ (T : List Done) (i k : Nat) (d : Done) (S S' : Nat → Bool) (hp : Hp), T[k]? = some d → S (i + k) = false → S' (i + k) = true → (∀ j, j ≠ i + k → S' j = S j) →
    (∀ j d', k < j → T[j]? = some d' → S (i + j) = true → d.ws = [] ∨ d'.ws = []) → hpS T i S' hp = writes (hpS T i S hp) d.ws
  | [], i, k, d, S, S', hp, hk, _, _, _, _ => by simp at hk
  | e :: T, i, 0, d, S, S', hp, hk, h0, h1, hne, hl => by
    simp at hk; subst hk
    simp only [Nat.add_zero] at h0 h1
    simp only [hpS, h0, h1, if_true, Bool.false_eq_true, if_false]
    rw [hpS_congr T (i + 1) S' S _ fun j d' _ _ => hne _ (by omega)]
    by_cases hw : e.ws = []
    · simp [hw, writes]
    · have : ∀ (T : List Done) (i : Nat) (hp : Hp), (∀ j d', T[j]? = some d' → S (i + j) = true → d'.ws = []) → hpS T i S hp = hp := by
        intro T
        induction T with
        | nil => intro i hp _; rfl
        | cons d' T ih =>
          intro i hp hh
          simp only [hpS]
          rw [ih (i + 1) _ fun j d'' hj hs => hh (j + 1) d'' (by simpa using hj) (by rwa [show i + (j + 1) = i + 1 + j by omega])]
          split
          · rename_i hs
            rw [hh 0 d' rfl (by simpa using hs)]; rfl
          · rfl
      have hh : ∀ j d', T[j]? = some d' → S (i + 1 + j) = true → d'.ws = [] := fun j d' hj hs =>
        (hl (j + 1) d' (by omega) (by simpa using hj) (by rwa [show i + (j + 1) = i + 1 + j by omega])).resolve_left hw
      rw [this T (i + 1) _ hh, this T (i + 1) _ hh]
  | e :: T, i, k + 1, d, S, S', hp, hk, h0, h1, hne, hl => by
    simp only [hpS]
    rw [hne i (by omega)]
    exact hpS_set T (i + 1) k d S S' _ (by simpa using hk) (by rwa [show i + 1 + k = i + (k + 1) by omega]) (by rwa [show i + 1 + k = i + (k + 1) by omega])
      (fun j hj => hne j (by omega)) fun j d' hj hd hs => hl (j + 1) d' (by omega) (by simpa using hd) (by rwa [show i + (j + 1) = i + 1 + j by omega])

/-! ### What comes before -/
def direct (o : Oper) : List Nat := (o.after.toList.filter (Region.binds .any)).map (·.on)
def maskOf (acc : List Nat) (l : List Nat) : Nat := l.foldl (fun m j => m ||| (2 ^ j ||| acc.getD j 0)) 0
def predsG : List Nat → List Oper → List Nat
  | acc, [] => acc
  | acc, o :: os => predsG (acc ++ [maskOf acc (direct o)]) os
def preds (ops : List Oper) : List Nat := predsG [] ops
theorem maskOf_bit (acc : List Nat) : ∀ (l : List Nat) (m x : Nat), (l.foldl (fun m j => m ||| (2 ^ j ||| acc.getD j 0)) m).testBit x = true → m.testBit x = true ∨ ∃ j ∈ l, x = j ∨ (acc.getD j 0).testBit x = true
  | [], m, x, h => .inl h
  | j :: l, m, x, h => by
    simp only [List.foldl_cons] at h
    rcases maskOf_bit acc l _ x h with h1 | ⟨k, hk, h1⟩
    · simp only [Nat.testBit_or, Bool.or_eq_true] at h1
      rcases h1 with h1 | h1 | h1
      · exact .inl h1
      · rw [Nat.testBit_two_pow] at h1
        exact .inr ⟨j, by simp, .inl (by simpa using (of_decide_eq_true h1).symm)⟩
      · exact .inr ⟨j, by simp, .inr h1⟩
    · exact .inr ⟨k, by simp [hk], h1⟩
def Down (ops : List Oper) (S : Nat → Bool) : Prop := ∀ i o, ops[i]? = some o → S i = true → ∀ j ∈ direct o, S j = true

theorem predsG_ok {all : List Oper} {S : Nat → Bool} (hD : Down all S) : ∀ (os : List Oper) (acc : List Nat), (∀ j, os[j]? = all[acc.length + j]?) →
    (∀ (i : Nat) (m : Nat), acc[i]? = some m → ∀ o, all[i]? = some o → (∀ j ∈ direct o, S j = true) → ∀ x, m.testBit x = true → S x = true) →
    ∀ (i : Nat) (m : Nat), (predsG acc os)[i]? = some m → ∀ o, all[i]? = some o → (∀ j ∈ direct o, S j = true) → ∀ x, m.testBit x = true → S x = true
  | [], acc, _, h => h
  | o :: os, acc, hos, h => by
    simp only [predsG]
    refine predsG_ok hD os _ (fun j => ?_) fun i m hi o' ho' hd x hx => ?_
    · have := hos (j + 1)
      simp only [List.getElem?_cons_succ] at this
      rw [this]; congr 1; simp; omega
    · by_cases hil : i < acc.length
      · rw [List.getElem?_append_left hil] at hi
        exact h i m hi o' ho' hd x hx
      · rw [List.getElem?_append_right (by omega)] at hi
        have hi0 : i = acc.length := by
          have := (List.getElem?_eq_some_iff.1 hi).1
          simp at this; omega
        subst hi0
        simp at hi
        subst hi
        have hoo : o' = o := by
          have := hos 0
          simp at this
          rw [ho'] at this
          exact (Option.some.inj this).symm
        subst hoo
        rcases maskOf_bit acc (direct o') 0 x hx with h1 | ⟨j, hj, h1⟩
        · simp at h1
        · rcases h1 with rfl | h1
          · exact hd x hj
          · have hSj := hd j hj
            cases haj : acc[j]? with
            | none => rw [List.getD_eq_getElem?_getD, haj] at h1; simp at h1
            | some mj =>
              rw [List.getD_eq_getElem?_getD, haj] at h1
              have hjl := (List.getElem?_eq_some_iff.1 haj).1
              have hal : acc.length < all.length := (List.getElem?_eq_some_iff.1 ho').1
              obtain ⟨oj, hoj⟩ : ∃ oj, all[j]? = some oj := ⟨_, List.getElem?_eq_getElem (by omega)⟩
              exact h j mj haj oj hoj (hD j oj hoj hSj) x h1
theorem preds_ok {ops : List Oper} {S : Nat → Bool} (hD : Down ops S) {i : Nat} {m : Nat} (hi : (preds ops)[i]? = some m) {o : Oper} (ho : ops[i]? = some o) (hd : ∀ j ∈ direct o, S j = true) : ∀ x, m.testBit x = true → S x = true :=
  predsG_ok hD ops [] (by simp) (by simp) i m hi o ho hd

def bfB (ps : List Nat) (j i : Nat) : Bool := Nat.testBit (ps.getD i 0) j

/-! ### Drawn orders -/
structure Drawn (P : Program) (nt : Nat) (ops : Array Oper) (T : List Done) (tm0 : Nat → AV) (hp0 : Hp) (bf : Nat → Nat → Bool) (f0 : Nat) : Prop where
  opsEq : T.map (·.o) = ops.toList
  edge : ∀ (i : Nat) (o : Oper), ops[i]? = some o → ∀ j ∈ direct o, j < i
  bef : ∀ (i j : Nat), bf j i = true → ∀ (S : Nat → Bool), Down ops.toList S → ∀ (o : Oper), ops[i]? = some o → (∀ j ∈ direct o, S j = true) → S j = true
  reads : ∀ (i : Nat) (d : Done), T[i]? = some d → ∀ p ∈ d.lo, ∀ (j : Nat) (d' : Done), T[j]? = some d' → d'.o.dst = some p.1 → (j < i → bf j i = true) ∧ (i < j → bf i j = true)
  same : ∀ (i j : Nat) (d d' : Done) (t : Tmp), i < j → T[i]? = some d → T[j]? = some d' → d.o.dst = some t → d'.o.dst = some t → bf i j = true
  loud : ∀ (i j : Nat) (d d' : Done), i < j → T[i]? = some d → T[j]? = some d' → d.ws ≠ [] → d'.ws ≠ [] → bf i j = true ∨ j = f0
  lex : ∀ (i : Nat) (d : Done), T[i]? = some d → ∀ p ∈ d.lo, tmS T 0 (fun j => decide (j < i)) tm0 p.1 = p.2
  keys : ∀ (i : Nat) (d : Done), T[i]? = some d → ∀ t, tmA d.lo t = .any ∨ (t, tmA d.lo t) ∈ d.lo
  want : ∀ (i : Nat) (d : Done), T[i]? = some d → wantedA ops d.o ⟨nt, tmA d.lo, hp0⟩ = some d.run
  skip : ∀ (i : Nat) (d : Done), T[i]? = some d → d.run = false → d.v = .und ∧ d.ws = []
  ok : ∀ (i : Nat) (d : Done), T[i]? = some d → d.run = true → i ≠ f0 → ∀ b, b ≤ T.length → (i < f0 → b ≤ f0 ∨ f0 + 1 < b) → (b = 0 ∨ ∃ m dm, b = m + 1 ∧ T[m]? = some dm ∧ dm.ws ≠ []) → (∀ (j : Nat) (d' : Done), T[j]? = some d' → d'.ws ≠ [] → ¬ (j = f0 ∧ i < f0 ∧ b ≤ f0) → (bf j i = true → j < b) ∧ ((bf i j = true ∨ j = i) → b ≤ j)) →
    OpOk P d.o ⟨nt, tmA d.lo, hpS T 0 (fun j => decide (j < b)) hp0⟩ ⟨d.v, d.ws⟩
  foll : ∀ (i q : Nat) (d : Done), f0 < i → q ≤ f0 → T[q]? = some d → (d.ws ≠ [] ∨ q = f0) → i < T.length → bf q i = true
  free : ∀ d, T[f0]? = some d → ∃ N blk, d.ws = [(N, blk)] ∧ hp0 N = none ∧ (∀ H : Hp, H N = none → d.run = true → OpOk P d.o ⟨nt, tmA d.lo, H⟩ ⟨d.v, d.ws⟩) ∧
    (∀ (i : Nat) (di : Done), i < f0 → T[i]? = some di → (∀ p ∈ di.ws, p.1 ≠ N) ∧ (∀ t, N ∉ (tmA di.lo t).refs) ∧ N ∉ di.v.refs) ∧
    (∀ b, b ≤ f0 → ∀ id c, hpS T 0 (fun j => decide (j < b)) hp0 id = some c → N ∉ c.refs)

theorem hpS_none : ∀ (T : List Done) (i : Nat) (S : Nat → Bool) (hp : Hp) (N : Nat), (∀ (j : Nat) (d : Done), T[j]? = some d → S (i + j) = true → ∀ p ∈ d.ws, p.1 ≠ N) → hpS T i S hp N = hp N
  | [], i, S, hp, N, _ => rfl
  | d :: T, i, S, hp, N, h => by
    simp only [hpS]
    rw [hpS_none T (i + 1) S _ N fun j d' hj hs => h (j + 1) d' (by simpa using hj) (by rwa [show i + (j + 1) = i + 1 + j by omega])]
    split
    · rename_i hs
      exact writes_notin (h 0 d rfl (by simpa using hs))
    · rfl
theorem writes_val : ∀ (ws : List (Nat × Blk)) (hp hp' : Hp) (id : Nat), writes hp ws id = writes hp' ws id ∨ (writes hp ws id = hp id ∧ writes hp' ws id = hp' id)
  | [], hp, hp', id => .inr ⟨rfl, rfl⟩
  | p :: ws, hp, hp', id => by
    show writes (upd hp p.1 (some p.2)) ws id = writes (upd hp' p.1 (some p.2)) ws id ∨ (writes (upd hp p.1 (some p.2)) ws id = hp id ∧ writes (upd hp' p.1 (some p.2)) ws id = hp' id)
    rcases writes_val ws (upd hp p.1 (some p.2)) (upd hp' p.1 (some p.2)) id with h | ⟨h1, h2⟩
    · exact .inl h
    · by_cases hp1 : id = p.1
      · left; rw [h1, h2, hp1, upd_same, upd_same]
      · right; rw [h1, h2, upd_ne _ _ hp1, upd_ne _ _ hp1]; exact ⟨rfl, rfl⟩

theorem count_set (p q : Nat → Bool) (i : Nat) (hp : p i = true) (hq : q i = false) (h : ∀ j, j ≠ i → q j = p j) : ∀ n, (List.range n).countP p = (List.range n).countP q + (if i < n then 1 else 0)
  | 0 => by simp
  | n + 1 => by
    rw [List.range_succ, List.countP_append, List.countP_append, count_set p q i hp hq h n]
    simp only [List.countP_singleton]
    by_cases hin : i = n
    · subst hin; simp [hp, hq]
    · rw [h n (fun e => hin e.symm)]
      by_cases h1 : i < n
      · rw [if_pos h1, if_pos (show i < n + 1 by omega)]; omega
      · rw [if_neg h1, if_neg (show ¬ i < n + 1 by omega)]; omega

theorem Conc.drew {σ : St} {C : Co} {a : Act} {w : World} (h : Conc σ C a w) : ∃ C', Conc σ C' a { w with drawn := w.drawn + 1 } ∧ ∀ V, Gone V w σ.hp C { w with drawn := w.drawn + 1 } σ.hp C' := by
  obtain ⟨e1, e2, e3⟩ := turn_conc (w' := { w with drawn := w.drawn + 1 }) (hp' := σ.hp) (C' := C) (fun _ => False) h.heap rfl rfl rfl rfl (Nat.le_refl _) (fun _ => rfl) (fun _ _ _ => rfl) (fun _ _ => ⟨rfl, rfl⟩)
    (fun _ _ h => h.elim) (fun _ h => h.elim) (fun _ h => h.elim) (fun _ _ _ h => h.elim)
  exact ⟨C, ⟨h.defers, h.size, fun t v hv => VRep.ev e1 (h.tmps t v hv), e3 fun _ _ h => h.elim⟩, fun V => ⟨e2, e1.vev⟩⟩


theorem wantedA_hp {ops : Array Oper} {o : Oper} {nt : Nat} {tm : Nat → AV} (H H' : Hp) : wantedA ops o ⟨nt, tm, H⟩ = wantedA ops o ⟨nt, tm, H'⟩ := rfl

theorem drawn_any {P : Program} {V nt : Nat} {ops : Array Oper} {T : List Done} {tm0 : Nat → AV} {hp0 : Hp} {bf : Nat → Nat → Bool} {f0 : Nat} (D : Drawn P nt ops T tm0 hp0 bf f0) {Q : Exit → Act → World → Prop} {w0 : World} {C0 : Co} {h00 : Hp}
    (hQ : ∀ C a w, Conc ⟨nt, tmS T 0 (fun _ => true) tm0, hpS T 0 (fun _ => true) hp0⟩ C a w → Gone V w0 h00 C0 w (hpS T 0 (fun _ => true) hp0) C → Q .normal a w) :
    ∀ (fuel : Nat) (listed : Array Bool) (C : Co) (a : Act) (w : World), listed.size = ops.size → Down ops.toList (fun j => listed.getD j false) → (List.range ops.size).countP (fun j => !listed.getD j false) = fuel →
      Conc ⟨nt, tmS T 0 (fun j => listed.getD j false) tm0, hpS T 0 (fun j => listed.getD j false) hp0⟩ C a w → Gone V w0 h00 C0 w (hpS T 0 (fun j => listed.getD j false) hp0) C →
      wpAny P .any ops Q fuel listed a w := by
  have hTl : T.length = ops.size := by have := congrArg List.length D.opsEq; simpa using this
  have hTo : ∀ (i : Nat) (d : Done), T[i]? = some d → ops[i]? = some d.o := fun i d hd => by
    have : (T.map (·.o))[i]? = some d.o := by simp [hd]
    rw [D.opsEq] at this; simpa using this
  have all_done : ∀ (listed : Array Bool), listed.size = ops.size → (∀ j, j < ops.size → listed.getD j false = true) → (∀ C a w, Conc ⟨nt, tmS T 0 (fun j => listed.getD j false) tm0, hpS T 0 (fun j => listed.getD j false) hp0⟩ C a w →
      Gone V w0 h00 C0 w (hpS T 0 (fun j => listed.getD j false) hp0) C → Q .normal a w) := fun listed hs hall C a w hc hg => by
    have e1 : tmS T 0 (fun j => listed.getD j false) tm0 = tmS T 0 (fun _ => true) tm0 := by
      funext t
      exact tmS_congr T 0 _ _ _ _ t rfl fun j d hj _ => by
        have := (List.getElem?_eq_some_iff.1 hj).1
        simpa using hall j (by omega)
    have e2 : hpS T 0 (fun j => listed.getD j false) hp0 = hpS T 0 (fun _ => true) hp0 := hpS_congr T 0 _ _ _ fun j d hj _ => by
      have := (List.getElem?_eq_some_iff.1 hj).1
      simpa using hall j (by omega)
    rw [e1, e2] at hc
    rw [e2] at hg
    exact hQ C a w hc hg
  have ready_of : ∀ (listed : Array Bool), listed.size = ops.size → Down ops.toList (fun j => listed.getD j false) → ∀ n i, i < n → i < ops.size → listed.getD i false = false → Region.ready .any ops listed ≠ [] := by
    intro listed hs hD n
    induction n with
    | zero => intro i hi; omega
    | succ n ih =>
      intro i hi hio hl
      obtain ⟨o, ho⟩ : ∃ o, ops[i]? = some o := ⟨_, Array.getElem?_eq_getElem hio⟩
      by_cases hd : ∀ j ∈ direct o, listed.getD j false = true
      · have : i ∈ Region.ready .any ops listed := by
          rw [mem_ready]
          refine ⟨?_, o, ho, fun e he hb => hd e.on ?_⟩
          · rw [Array.getD_eq_getD_getElem?] at hl ⊢
            have : listed[i]? = some listed[i] := Array.getElem?_eq_getElem (by omega)
            rw [this] at hl ⊢; simpa using hl
          · simp only [direct, List.mem_map, List.mem_filter]
            exact ⟨e, ⟨by simpa using he, hb⟩, rfl⟩
        intro h
        rw [h] at this; simp at this
      · have : ∃ j, j ∈ direct o ∧ listed.getD j false = false := by
          refine Classical.byContradiction fun hn => hd fun j hj => ?_
          cases hb : listed.getD j false with
          | true => rfl
          | false => exact absurd ⟨j, hj, hb⟩ hn
        obtain ⟨j, hj, hjl⟩ := this
        have hji := D.edge i o ho j hj
        exact ih j (by omega) (by omega) hjl
  intro fuel
  induction fuel with
  | zero =>
    intro listed C a w hs hD hcnt hc hg
    have hall : ∀ j, j < ops.size → listed.getD j false = true := fun j hj => by
      have := List.countP_eq_zero.1 hcnt j (by simpa using hj)
      simpa using this
    refine ⟨?_, all_done listed hs hall C a w hc hg⟩
    apply List.eq_nil_iff_forall_not_mem.2
    intro i hi
    rw [mem_ready] at hi
    obtain ⟨h1, o, ho, _⟩ := hi
    have hio := (Array.getElem?_eq_some_iff.1 ho).1
    have h2 := hall i hio
    rw [Array.getD_eq_getD_getElem?] at h1 h2
    have : listed[i]? = some listed[i] := Array.getElem?_eq_getElem (by omega)
    rw [this] at h1 h2
    simp at h1 h2
    rw [h1] at h2; simp at h2
  | succ fuel ih =>
    intro listed C a w hs hD hcnt hc hg
    refine ⟨fun hr => ?_, fun i hi => ?_⟩
    · have : ∃ j, j < ops.size ∧ listed.getD j false = false := by
        refine Classical.byContradiction fun hn => ?_
        have : (List.range ops.size).countP (fun j => !listed.getD j false) = 0 := List.countP_eq_zero.2 fun j hj => by
          cases hb : listed.getD j false with
          | true => simp
          | false => exact absurd ⟨j, by simpa using hj, hb⟩ hn
        omega
      obtain ⟨j, hj, hl⟩ := this
      exact absurd hr (ready_of listed hs hD (j + 1) j (by omega) hj hl)
    · rw [mem_ready] at hi
      obtain ⟨h1, o, ho, hall⟩ := hi
      have hio := (Array.getElem?_eq_some_iff.1 ho).1
      have hli : listed.getD i false = false := by
        rw [Array.getD_eq_getD_getElem?] at h1 ⊢
        have : listed[i]? = some listed[i] := Array.getElem?_eq_getElem (by omega)
        rw [this] at h1 ⊢; simpa using h1
      obtain ⟨d, hd⟩ : ∃ d, T[i]? = some d := ⟨_, List.getElem?_eq_getElem (by omega)⟩
      have hdo : d.o = o := by have := hTo i d hd; rw [ho] at this; exact (Option.some.inj this).symm
      subst hdo
      obtain ⟨S, hS⟩ : ∃ S : Nat → Bool, S = fun j => listed.getD j false := ⟨_, rfl⟩
      have hdir : ∀ j ∈ direct d.o, S j = true := fun j hj => by
        simp only [direct, List.mem_map, List.mem_filter] at hj
        obtain ⟨e, ⟨he, hb⟩, rfl⟩ := hj
        rw [hS]
        exact hall e (by simpa using he) hb
      rw [← hS] at hD hc hg
      have hSi : S i = false := by rw [hS]; exact hli
      have before : ∀ j, bf j i = true → S j = true := fun j hj => D.bef i j hj S hD d.o ho hdir
      have after : ∀ (j : Nat) (dj : Done), T[j]? = some dj → bf i j = true → S j = false := fun j dj hj hb => by
        cases hSj : S j with
        | false => rfl
        | true =>
          have := D.bef j i hb S hD dj.o (hTo j dj hj) (fun q hq => hD j dj.o (by simpa using hTo j dj hj) hSj q hq)
          rw [hSi] at this; simp at this
      -- what the operation looks at is as in the text's order
      have hlo : ∀ p ∈ d.lo, tmS T 0 S tm0 p.1 = p.2 := fun p hp => by
        rw [← D.lex i d hd p hp]
        refine tmS_congr T 0 _ _ _ _ p.1 rfl fun j dj hj hdst => ?_
        obtain ⟨r1, r2⟩ := D.reads i d hd p hp j dj hj hdst
        rw [Nat.zero_add]
        rcases Nat.lt_trichotomy j i with h | h | h
        · rw [before j (r1 h)]; simp [h]
        · subst h; rw [hSi]; simp
        · rw [after j dj hj (r2 h)]; simp; omega
      have hsub : ∀ t, tmA d.lo t = .any ∨ tmA d.lo t = tmS T 0 S tm0 t := fun t => by
        rcases D.keys i d hd t with h | h
        · exact .inl h
        · exact .inr (hlo _ h).symm
      have hc0 : Conc ⟨nt, tmA d.lo, hpS T 0 S hp0⟩ C a w := ⟨hc.defers, hc.size, fun t v hv => by
        simp only
        rcases hsub t with e | e
        · rw [e]; simp [VRep]
        · rw [e]; exact hc.tmps t v hv, hc.heap⟩
      have hwant := wantedA_ok hc0 ((wantedA_hp _ _).trans (D.want i d hd))
      -- the heap is one of the text's order, but for the one block that may be made at any time
      have finish : (d.run = true → OpOk P d.o ⟨nt, tmA d.lo, hpS T 0 S hp0⟩ ⟨d.v, d.ws⟩) → (∀ S' : Nat → Bool, S' i = true → (∀ j, j ≠ i → S' j = S j) → hpS T 0 S' hp0 = writes (hpS T 0 S hp0) d.ws) → wpOp P ops Q i (wpAny P .any ops Q fuel (listed.setIfInBounds i true)) a w := by
        intro hok hhp0
        -- one more
        obtain ⟨S', hS'⟩ : ∃ S' : Nat → Bool, S' = fun j => (listed.setIfInBounds i true).getD j false := ⟨_, rfl⟩
        have hS'i : S' i = true := by
          rw [hS']; simp [show i < listed.size by omega]
        have hS'o : ∀ j, j ≠ i → S' j = S j := fun j hj => by rw [hS', hS]; exact getD_set_ne false (Ne.symm hj)
        have hD' : Down ops.toList S' := fun j oj hoj hSj q hq => by
          have hup : S q = true → S' q = true := fun h => by
            by_cases hqi : q = i
            · subst hqi; exact hS'i
            · rw [hS'o q hqi]; exact h
          by_cases hji : j = i
          · subst hji
            have : oj = d.o := by
              have h2 := hTo j d hd
              have h3 : ops.toList[j]? = some d.o := by simpa using h2
              rw [h3] at hoj; exact (Option.some.inj hoj).symm
            subst this
            exact hup (hdir q hq)
          · rw [hS'o j hji] at hSj
            exact hup (hD j oj hoj hSj q hq)
        have htm : tmS T 0 S' tm0 = effT d (tmS T 0 S tm0) := tmS_set T 0 i d S S' tm0 hd (by rwa [Nat.zero_add]) (by rwa [Nat.zero_add]) (fun j hj => hS'o j (by rwa [Nat.zero_add] at hj)) fun j dj hij hj hSj t ht ht' => by
          rw [Nat.zero_add] at hSj
          have := after j dj hj (D.same i j d dj t hij hd hj ht ht')
          rw [this] at hSj; simp at hSj
        have hhp' : hpS T 0 S' hp0 = writes (hpS T 0 S hp0) d.ws := hhp0 S' hS'i hS'o
        have hcnt' : (List.range ops.size).countP (fun j => !(listed.setIfInBounds i true).getD j false) = fuel := by
          have := count_set (fun j => !listed.getD j false) (fun j => !(listed.setIfInBounds i true).getD j false) i (by simp only [hli]; rfl) (by
            have h2 := hS'i; rw [hS'] at h2; simp only at h2; simp only [h2]; rfl) (fun j hj => by
            have h2 := hS'o j hj; rw [hS', hS] at h2; simp only at h2; simp only [h2]) ops.size
          rw [if_pos hio] at this
          omega
        have next : ∀ C' a' w', Conc ⟨nt, effT d (tmS T 0 S tm0), writes (hpS T 0 S hp0) d.ws⟩ C' a' w' → Gone V w0 h00 C0 w' (writes (hpS T 0 S hp0) d.ws) C' → wpAny P .any ops Q fuel (listed.setIfInBounds i true) a' w' := fun C' a' w' hc' hg' => by
          refine ih (listed.setIfInBounds i true) C' a' w' (by simpa using hs) (by rw [← hS']; exact hD') hcnt' ?_ ?_
          · rw [← hS', htm, hhp']; exact hc'
          · rw [← hS', hhp']; exact hg'
        unfold wpOp
        rw [ho]
        simp only
        cases hrun : d.run with
        | true =>
          rw [hrun] at hwant
          rw [hwant]
          simp only [if_true]
          have hok' := (hok hrun).more hsub C a w hc
          refine .inl (Oper.wp_monoQ (Oper.wp_mono (fun a' w' ⟨C', k1, k2, k3⟩ => next C' a' w' ?_ (hg.trans ⟨k3, k2.vev⟩)) hok'))
          have e : (St.mk nt (tmS T 0 S tm0) (hpS T 0 S hp0)).app d.o.dst ⟨d.v, d.ws⟩ = ⟨nt, effT d (tmS T 0 S tm0), writes (hpS T 0 S hp0) d.ws⟩ := by
            unfold effT
            cases hdst : d.o.dst <;> simp [St.app, St.put]
          rw [← e]; exact k1
        | false =>
          rw [hrun] at hwant
          rw [hwant]
          simp only [Bool.false_eq_true, if_false]
          obtain ⟨e1, e2⟩ := D.skip i d hd hrun
          have hput : Conc ((St.mk nt (tmS T 0 S tm0) (hpS T 0 S hp0)).put d.o.dst .und) C (a.put d.o.dst undef) w := by
            have := hc.put (v := .und) (u := undef) d.o.dst (Ev.refl ..) (by simp [VRep]) hc.heap
            cases hdst : d.o.dst <;> simpa [St.put, hdst] using this
          refine next C _ w ?_ ?_
          · have e : (St.mk nt (tmS T 0 S tm0) (hpS T 0 S hp0)).put d.o.dst .und = ⟨nt, effT d (tmS T 0 S tm0), writes (hpS T 0 S hp0) d.ws⟩ := by
              unfold effT
              rw [e1, e2]
              cases hdst : d.o.dst <;> simp [St.put, writes]
            rw [← e]; exact hput
          · rw [e2]; exact hg
      by_cases hB : ∃ m dm, T[m]? = some dm ∧ f0 < m ∧ dm.ws ≠ [] ∧ S m = true
      · -- a later change has been made: so has the one that may be made at any time, and all before it
        obtain ⟨m, dm, hm, hmf, hml, hSm⟩ := hB
        have hmT := (List.getElem?_eq_some_iff.1 hm).1
        have inS : ∀ (j : Nat) (dj : Done), T[j]? = some dj → j ≤ f0 → (dj.ws ≠ [] ∨ j = f0) → S j = true := fun j dj hj h1 h2 =>
          D.bef m j (D.foll m j dj hmf h1 hj h2 hmT) S hD dm.o (hTo m dm hm) fun q hq => hD m dm.o (by simpa using hTo m dm hm) hSm q hq
        have hif : i ≠ f0 := fun e => by
          have := inS i d hd (by omega) (.inr e)
          rw [hSi] at this; simp at this
        have hinl : i < f0 → d.ws = [] := fun h => by
          by_cases hw : d.ws = []
          · exact hw
          · have := inS i d hd (by omega) (.inl hw)
            rw [hSi] at this; simp at this
        have key : ∀ n, n ≤ T.length → ∃ b, b ≤ n ∧ (b = 0 ∨ ∃ m dm, b = m + 1 ∧ T[m]? = some dm ∧ dm.ws ≠ []) ∧ ∀ (j : Nat) (dj : Done), j < n → T[j]? = some dj → dj.ws ≠ [] → (S j = true ↔ j < b) := by
          intro n
          induction n with
          | zero => intro _; exact ⟨0, Nat.le_refl _, .inl rfl, fun j _ hj => by omega⟩
          | succ n ihn =>
            intro hn
            obtain ⟨b, hb, hbm, hbb⟩ := ihn (by omega)
            obtain ⟨dn, hdn⟩ : ∃ dn, T[n]? = some dn := ⟨_, List.getElem?_eq_getElem (by omega)⟩
            by_cases hnl : dn.ws ≠ [] ∧ S n = true
            · refine ⟨n + 1, Nat.le_refl _, .inr ⟨n, dn, rfl, hdn, hnl.1⟩, fun j dj hj hdj hl => ⟨fun _ => hj, fun _ => ?_⟩⟩
              rcases Nat.lt_or_ge j n with h | h
              · rcases D.loud j n dj dn h hdj hdn hl hnl.1 with hbf | hnf
                · exact D.bef n j hbf S hD dn.o (hTo n dn hdn) fun q hq => hD n dn.o (by simpa using hTo n dn hdn) hnl.2 q hq
                · exact inS j dj hdj (by omega) (.inl hl)
              · have : j = n := by omega
                subst this; exact hnl.2
            · refine ⟨b, by omega, hbm, fun j dj hj hdj hl => ?_⟩
              rcases Nat.lt_or_ge j n with h | h
              · exact hbb j dj h hdj hl
              · have : j = n := by omega
                subst this
                rw [hdn] at hdj
                obtain rfl := Option.some.inj hdj
                constructor
                · intro hSj; exact absurd ⟨hl, hSj⟩ hnl
                · intro; omega
        obtain ⟨b, hbT, hbm, hb0⟩ := key T.length (Nat.le_refl _)
        have hb : ∀ (j : Nat) (dj : Done), T[j]? = some dj → dj.ws ≠ [] → (S j = true ↔ j < b) := fun j dj hj hl => hb0 j dj (List.getElem?_eq_some_iff.1 hj).1 hj hl
        have hmb := (hb m dm hm hml).1 hSm
        have hok : d.run = true → OpOk P d.o ⟨nt, tmA d.lo, hpS T 0 S hp0⟩ ⟨d.v, d.ws⟩ := fun hrun => by
          have hok := D.ok i d hd hrun hif b hbT (fun _ => .inr (by omega)) hbm fun j dj hj hl _ => ⟨fun hbf => (hb j dj hj hl).1 (before j hbf), fun hbf => by
            rcases Nat.lt_or_ge j b with h | h
            · have hSj := (hb j dj hj hl).2 h
              rcases hbf with hbf | rfl
              · rw [after j dj hj hbf] at hSj; simp at hSj
              · rw [hSi] at hSj; simp at hSj
            · exact h⟩
          have hS1 : hpS T 0 S hp0 = hpS T 0 (fun j => decide (j < b)) hp0 := hpS_congr T 0 _ _ _ fun j dj hj hl => by
            rw [Nat.zero_add]
            have := hb j dj hj hl
            cases hSj : S j with
            | true => simp [this.1 hSj]
            | false =>
              have : ¬ j < b := fun h => by rw [this.2 h] at hSj; simp at hSj
              simp [this]
          rw [hS1]; exact hok
        refine finish hok ?_
        intro S' hS'i hS'o
        refine hpS_set T 0 i d S S' hp0 hd (by rwa [Nat.zero_add]) (by rwa [Nat.zero_add]) (fun j hj => hS'o j (by rwa [Nat.zero_add] at hj)) fun j dj hij hj hSj => ?_
        rw [Nat.zero_add] at hSj
        by_cases hw : d.ws = []
        · exact .inl hw
        · by_cases hw' : dj.ws = []
          · exact .inr hw'
          · rcases D.loud i j d dj hij hd hj hw hw' with hbf | hjf
            · have := after j dj hj hbf
              rw [this] at hSj; simp at hSj
            · exact absurd (hinl (by omega)) hw
      · have follS : ∀ j dj, T[j]? = some dj → f0 < j → dj.ws ≠ [] → S j = false := fun j dj hj h1 h2 => by
          cases hSj : S j with
          | false => rfl
          | true => exact absurd ⟨j, dj, hj, h1, h2, hSj⟩ hB
        have hstage : i ≠ f0 → ∃ b, b ≤ T.length ∧ (i < f0 → b ≤ f0) ∧ (b = 0 ∨ ∃ m dm, b = m + 1 ∧ T[m]? = some dm ∧ dm.ws ≠ []) ∧ (∀ (j : Nat) (dj : Done), T[j]? = some dj → dj.ws ≠ [] → ¬ (j = f0 ∧ i < f0) → (S j = true ↔ j < b)) := by
          intro hif
          have key : ∀ n, n ≤ T.length → ∃ b, b ≤ n ∧ (b = 0 ∨ ∃ m dm, b = m + 1 ∧ T[m]? = some dm ∧ dm.ws ≠ [] ∧ S m = true ∧ ¬ (m = f0 ∧ i < f0)) ∧ ∀ (j : Nat) (dj : Done), j < n → T[j]? = some dj → dj.ws ≠ [] → ¬ (j = f0 ∧ i < f0) → (S j = true ↔ j < b) := by
            intro n
            induction n with
            | zero => intro _; exact ⟨0, Nat.le_refl _, .inl rfl, fun j _ hj => by omega⟩
            | succ n ihn =>
              intro hn
              obtain ⟨b, hb, hbm, hbb⟩ := ihn (by omega)
              obtain ⟨dn, hdn⟩ : ∃ dn, T[n]? = some dn := ⟨_, List.getElem?_eq_getElem (by omega)⟩
              by_cases hnl : dn.ws ≠ [] ∧ S n = true ∧ ¬ (n = f0 ∧ i < f0)
              · refine ⟨n + 1, Nat.le_refl _, .inr ⟨n, dn, rfl, hdn, hnl⟩, fun j dj hj hdj hl hnt => ⟨fun _ => hj, fun _ => ?_⟩⟩
                rcases Nat.lt_or_ge j n with h | h
                · rcases D.loud j n dj dn h hdj hdn hl hnl.1 with hbf | hnf
                  · exact D.bef n j hbf S hD dn.o (hTo n dn hdn) fun q hq => hD n dn.o (by simpa using hTo n dn hdn) hnl.2.1 q hq
                  · have : f0 < i := by
                      rcases Nat.lt_trichotomy i f0 with h1 | h1 | h1
                      · exact absurd ⟨hnf, h1⟩ hnl.2.2
                      · exact absurd h1 hif
                      · exact h1
                    exact before j (D.foll i j dj this (by omega) hdj (.inl hl) (List.getElem?_eq_some_iff.1 hd).1)
                · have : j = n := by omega
                  subst this; exact hnl.2.1
              · refine ⟨b, by omega, hbm, fun j dj hj hdj hl hnt => ?_⟩
                rcases Nat.lt_or_ge j n with h | h
                · exact hbb j dj h hdj hl hnt
                · have : j = n := by omega
                  subst this
                  rw [hdn] at hdj
                  obtain rfl := Option.some.inj hdj
                  constructor
                  · intro hSj; exact absurd ⟨hl, hSj, hnt⟩ hnl
                  · intro; omega
          obtain ⟨b, h1, hm, h2⟩ := key T.length (Nat.le_refl _)
          refine ⟨b, h1, fun hlt => ?_, hm.imp_right fun ⟨m, dm, e1, e2, e3, _⟩ => ⟨m, dm, e1, e2, e3⟩, fun j dj hj hl => h2 j dj (List.getElem?_eq_some_iff.1 hj).1 hj hl⟩
          rcases hm with rfl | ⟨m, dm, rfl, hdm, hml, hSm, hnm⟩
          · omega
          · rcases Nat.lt_trichotomy m f0 with h3 | h3 | h3
            · omega
            · exact absurd ⟨h3, hlt⟩ hnm
            · have := follS m dm hdm h3 hml
              rw [hSm] at this; simp at this
        have part : ∀ (d0 : Done) (S2 : Nat → Bool), T[f0]? = some d0 → S2 f0 = true → (∀ j dj, T[j]? = some dj → f0 < j → dj.ws ≠ [] → S2 j = false) → hpS T 0 S2 hp0 = writes (hpS T 0 (fun j => S2 j && !(Nat.beq j f0)) hp0) d0.ws := fun d0 S2 hd0 k1 k2 =>
          hpS_set T 0 f0 d0 (fun j => S2 j && !(Nat.beq j f0)) S2 hp0 hd0 (by rw [Nat.zero_add]; simp) (by rw [Nat.zero_add]; exact k1)
            (fun j hj => by rw [Nat.zero_add] at hj; cases hbe : Nat.beq j f0 with
              | false => simp [hbe]
              | true => exact absurd (Nat.eq_of_beq_eq_true hbe) hj) fun j dj hij hj hs => by
              by_cases hw : dj.ws = []
              · exact .inr hw
              · rw [Nat.zero_add, k2 j dj hj hij hw] at hs; simp at hs
        have hok : d.run = true → OpOk P d.o ⟨nt, tmA d.lo, hpS T 0 S hp0⟩ ⟨d.v, d.ws⟩ := by
          intro hrun
          by_cases hif : i = f0
          · subst hif
            obtain ⟨N, blk, e1, e2, e3, e4, e5⟩ := D.free d hd
            refine e3 _ ?_ hrun
            rw [hpS_none T 0 S hp0 N fun j dj hj hs => ?_]
            · exact e2
            · rw [Nat.zero_add] at hs
              rcases Nat.lt_trichotomy j i with h1 | h1 | h1
              · exact (e4 j dj h1 hj).1
              · subst h1; rw [hSi] at hs; simp at hs
              · by_cases hw : dj.ws = []
                · rw [hw]; simp
                · rw [follS j dj hj h1 hw] at hs; simp at hs
          · obtain ⟨b, hbT, hbf0, hbm, hb⟩ := hstage hif
            have hok := D.ok i d hd hrun hif b hbT (fun h => .inl (hbf0 h)) hbm fun j dj hj hl hnt => by
              have hnt' : ¬ (j = f0 ∧ i < f0) := fun h => hnt ⟨h.1, h.2, hbf0 h.2⟩
              exact ⟨fun hbf => (hb j dj hj hl hnt').1 (before j hbf), fun hbf => by
                rcases Nat.lt_or_ge j b with h | h
                · have hSj := (hb j dj hj hl hnt').2 h
                  rcases hbf with hbf | rfl
                  · rw [after j dj hj hbf] at hSj; simp at hSj
                  · rw [hSi] at hSj; simp at hSj
                · exact h⟩
            by_cases hlate : i < f0 ∧ S f0 = true ∧ f0 < T.length
            · obtain ⟨h1, h2, h3⟩ := hlate
              obtain ⟨d0, hd0⟩ : ∃ d0, T[f0]? = some d0 := ⟨_, List.getElem?_eq_getElem h3⟩
              obtain ⟨N, blk, e1, e2, e3, e4, e5⟩ := D.free d0 hd0
              have hb0 := hbf0 h1
              have hS0 := part d0 S hd0 h2 follS
              have hS1 : hpS T 0 (fun j => S j && !(Nat.beq j f0)) hp0 = hpS T 0 (fun j => decide (j < b)) hp0 := hpS_congr T 0 _ _ _ fun j dj hj hl => by
                rw [Nat.zero_add]
                by_cases hjf : j = f0
                · subst hjf; simp; omega
                · have hne : Nat.beq j f0 = false := by
                    cases hbe : Nat.beq j f0 with
                    | false => rfl
                    | true => exact absurd (Nat.eq_of_beq_eq_true hbe) hjf
                  have := hb j dj hj hl (fun h => hjf h.1)
                  cases hSj : S j with
                  | true => simp [hne, this.1 hSj]
                  | false =>
                    have : ¬ j < b := fun h => by rw [this.2 h] at hSj; simp at hSj
                    simp [this]
              rw [hS0, hS1, e1]
              have hNn : hpS T 0 (fun j => decide (j < b)) hp0 N = none := by
                rw [hpS_none T 0 _ hp0 N fun j dj hj hs => ?_]
                · exact e2
                · rw [Nat.zero_add] at hs
                  have : j < b := by simpa using hs
                  exact (e4 j dj (by omega) hj).1
              obtain ⟨g1, g2, g3⟩ := e4 i d h1 hd
              refine OpOk.frame hok hNn g1 (e5 b hb0) (fun id c hc => ?_) g2 g3
              have hi1 : hpS T 0 (fun j => decide (j < i + 1)) hp0 = writes (hpS T 0 (fun j => decide (j < i)) hp0) d.ws := hpS_set T 0 i d _ _ hp0 hd (by simp) (by simp) (fun j hj => by
                  rw [Nat.zero_add] at hj
                  by_cases h : j < i
                  · simp [h]; omega
                  · have : ¬ j < i + 1 := by omega
                    simp [h, this]) fun j dj hij hj hs => by
                    rw [Nat.zero_add] at hs; simp at hs; omega
              rcases writes_val d.ws (hpS T 0 (fun j => decide (j < b)) hp0) (hpS T 0 (fun j => decide (j < i)) hp0) id with h | ⟨h, _⟩
              · rw [h, ← hi1] at hc
                exact e5 (i + 1) (by omega) id c hc
              · rw [h] at hc
                exact e5 b hb0 id c hc
            · have hS1 : hpS T 0 S hp0 = hpS T 0 (fun j => decide (j < b)) hp0 := hpS_congr T 0 _ _ _ fun j dj hj hl => by
                rw [Nat.zero_add]
                by_cases hjf : j = f0 ∧ i < f0
                · obtain ⟨rfl, h1⟩ := hjf
                  have h3 := (List.getElem?_eq_some_iff.1 hj).1
                  have hSj : S j = false := by
                    cases hSj : S j with
                    | false => rfl
                    | true => exact absurd ⟨h1, hSj, h3⟩ hlate
                  have : ¬ j < b := by have := hbf0 h1; omega
                  simp [hSj, this]
                · have := hb j dj hj hl hjf
                  cases hSj : S j with
                  | true => simp [this.1 hSj]
                  | false =>
                    have : ¬ j < b := fun h => by rw [this.2 h] at hSj; simp at hSj
                    simp [this]
              rw [hS1]; exact hok
        refine finish hok ?_
        intro S' hS'i hS'o
        by_cases hlate : i < f0 ∧ S f0 = true ∧ f0 < T.length
        · obtain ⟨h1, h2, h3⟩ := hlate
          obtain ⟨d0, hd0⟩ : ∃ d0, T[f0]? = some d0 := ⟨_, List.getElem?_eq_getElem h3⟩
          obtain ⟨N, blk, e1, e2, e3, e4, e5⟩ := D.free d0 hd0
          have q1 := part d0 S hd0 h2 follS
          have q2 := part d0 S' hd0 (by rw [hS'o f0 (by omega)]; exact h2) fun j dj hj h hw => by rw [hS'o j (by omega)]; exact follS j dj hj h hw
          have q3 : hpS T 0 (fun j => S' j && !(Nat.beq j f0)) hp0 = writes (hpS T 0 (fun j => S j && !(Nat.beq j f0)) hp0) d.ws := hpS_set T 0 i d _ _ hp0 hd (by rw [Nat.zero_add]; simp [hSi]) (by
            rw [Nat.zero_add]
            have : Nat.beq i f0 = false := by
              cases hbe : Nat.beq i f0 with
              | false => rfl
              | true => have := Nat.eq_of_beq_eq_true hbe; omega
            simp [hS'i, this]) (fun j hj => by rw [Nat.zero_add] at hj; simp only [hS'o j hj]) fun j dj hij hj hs => by
            rw [Nat.zero_add] at hs
            simp only [Bool.and_eq_true] at hs
            by_cases hw : d.ws = []
            · exact .inl hw
            · by_cases hw' : dj.ws = []
              · exact .inr hw'
              · rcases D.loud i j d dj hij hd hj hw hw' with hbf | hjf
                · rw [after j dj hj hbf] at hs; simp at hs
                · subst hjf; simp at hs
          rw [q2, q3, q1, e1]
          exact (writes_upd (e4 i d h1 hd).1).symm
        · refine hpS_set T 0 i d S S' hp0 hd (by rwa [Nat.zero_add]) (by rwa [Nat.zero_add]) (fun j hj => hS'o j (by rwa [Nat.zero_add] at hj)) fun j dj hij hj hSj => ?_
          rw [Nat.zero_add] at hSj
          by_cases hw : d.ws = []
          · exact .inl hw
          · by_cases hw' : dj.ws = []
            · exact .inr hw'
            · rcases D.loud i j d dj hij hd hj hw hw' with hbf | hjf
              · have := after j dj hj hbf
                rw [this] at hSj; simp at hSj
              · subst hjf
                exact absurd ⟨hij, hSj, (List.getElem?_eq_some_iff.1 hj).1⟩ hlate

theorem drawn_wp {P : Program} (hm : P.follows .mixedOrders = true) {V nt : Nat} {ops : Array Oper} {T : List Done} {tm0 : Nat → AV} {hp0 : Hp} {bf : Nat → Nat → Bool} {f0 : Nat} (D : Drawn P nt ops T tm0 hp0 bf f0) {Q : Exit → St → Prop} {id : Nat}
    (hQ : Q .normal ⟨nt, tmS T 0 (fun _ => true) tm0, hpS T 0 (fun _ => true) hp0⟩) : AWp P V (.region id ops true) Q ⟨nt, tm0, hp0⟩ := by
  intro C a w hc
  obtain ⟨C1, hc1, hg1⟩ := hc.drew
  refine wp_region_any hm ?_
  have hno : ∀ i, (Array.replicate ops.size false).getD i false = false := fun i => by
    simp [Array.getD_eq_getD_getElem?, Array.getElem?_replicate]
    split <;> simp
  have hno' : (fun j => (Array.replicate ops.size false).getD j false) = fun _ => false := funext hno
  have hT0 : tmS T 0 (fun j => (Array.replicate ops.size false).getD j false) tm0 = tm0 := by
    rw [hno']
    have : ∀ (T : List Done) (i : Nat), tmS T i (fun _ => false) tm0 = tm0 := by
      intro T
      induction T with
      | nil => intro i; rfl
      | cons d T ih => intro i; simp only [tmS, Bool.false_eq_true, if_false]; exact ih _
    exact this T 0
  have hH0 : hpS T 0 (fun j => (Array.replicate ops.size false).getD j false) hp0 = hp0 := by
    rw [hno']
    have : ∀ (T : List Done) (i : Nat), hpS T i (fun _ => false) hp0 = hp0 := by
      intro T
      induction T with
      | nil => intro i; rfl
      | cons d T ih => intro i; simp only [hpS, Bool.false_eq_true, if_false]; exact ih _
    exact this T 0
  refine drawn_any D (V := V) (w0 := w) (C0 := C) (h00 := hp0) (fun C' a' w' k1 k2 => ⟨_, C', hQ, k1, k2⟩) ops.size (Array.replicate ops.size false) C1 a _ (by simp) ?_ ?_ ?_ ?_
  · intro j o ho hSj
    simp only [hno j] at hSj; simp at hSj
  · have : (fun j => !(Array.replicate ops.size false).getD j false) = fun _ => true := by
      funext j; rw [hno j]; rfl
    rw [this]; simp
  · rw [hT0, hH0]; exact hc1
  · rw [hH0]; exact hg1 V

end Go.Al
