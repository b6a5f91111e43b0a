/- The abstract logic, part 14: walking a region whose order is drawn. -/
import Derived.Test.YtjdmlcpngddgaaaAlDraw
set_option linter.unusedVariables false
set_option linter.unusedSimpArgs false
namespace Go.Al
open Go Go.RowKit

def allI {α : Type} (f : Nat → α → Bool) : Nat → List α → Bool
  | _, [] => true
  | i, x :: l => f i x && allI f (i + 1) l
theorem allI_at {α : Type} {f : Nat → α → Bool} : ∀ {l : List α} {i : Nat}, allI f i l = true → ∀ {j : Nat} {x : α}, l[j]? = some x → f (i + j) x = true
  | [], i, _, j, x, h => by simp at h
  | y :: l, i, h, j, x, hx => by
    simp only [allI, Bool.and_eq_true] at h
    cases j with
    | zero => simp at hx; subst hx; exact h.1
    | succ j =>
      have := allI_at h.2 (j := j) (by simpa using hx)
      rwa [show i + (j + 1) = i + 1 + j by omega]

/-- What the check sees of an operation that has been run. -/
structure Dd where
  dst : Option Tmp
  ks : List Tmp
  loud : Bool

def ordB (ps : List Nat) (i j : Nat) : Bool := match Nat.blt j i with
  | true => bfB ps j i
  | false => bfB ps i j
def chkF (ps : List Nat) (T : List Dd) (f0 : Nat) : Bool := allI (fun i _ => match Nat.blt f0 i with
  | true => allI (fun q d => Nat.blt f0 q || !(d.loud || Nat.beq q f0) || bfB ps q i) 0 T
  | false => Nat.beq i f0 || !(bfB ps f0 i)) 0 T
def chkD (ops : List Oper) (T : List Dd) (f0 : Nat) : Bool :=
  let ps := preds ops
  allI (fun i o => (direct o).all fun j => Nat.blt j i) 0 ops &&
  allI (fun i d => d.ks.all fun t => allI (fun j d' => Nat.beq j i || !(d'.dst == some t) || ordB ps i j) 0 T) 0 T &&
  allI (fun i d => allI (fun j d' => Nat.beq j i || (match d.dst with | some t => !(d'.dst == some t) | none => true) || ordB ps i j) 0 T) 0 T &&
  allI (fun i d => allI (fun j d' => Nat.beq j i || !d.loud || !d'.loud || ordB ps i j || Nat.beq i f0 || Nat.beq j f0) 0 T) 0 T &&
  chkF ps T f0

def toDd (d : Done) (b : Bool) : Dd := ⟨d.o.dst, d.lo.map (·.1), b⟩

/-- The state of a walk through such a region, T: what has been run, hs: the heap ahead of each. -/
structure DSt (P : Program) (nt : Nat) (ops : List Oper) (l0 : Tm) (h0 : Hl) (rest : List Oper) (T : List Done) (Td : List Dd) (hs : List Hl) (l : Tm) (h : Hl) : Prop where
  opsEq : T.map (·.o) ++ rest = ops
  dd : Td.length = T.length ∧ ∀ (i : Nat) (d : Done) (b : Dd), T[i]? = some d → Td[i]? = some b → b.dst = d.o.dst ∧ b.ks = d.lo.map (·.1) ∧ b.loud = !d.ws.isEmpty
  tm : tmS T 0 (fun _ => true) (tmA l0) = tmA l
  hp : hpS T 0 (fun _ => true) (hpL h0) = hpL h
  hsl : hs.length = T.length
  hs : ∀ (i : Nat) (hi : Hl), hs[i]? = some hi → hpS T 0 (fun j => decide (j < i)) (hpL h0) = hpL hi
  lex : ∀ (i : Nat) (d : Done), T[i]? = some d → ∀ p ∈ d.lo, tmS T 0 (fun j => decide (j < i)) (tmA l0) p.1 = p.2
  want : ∀ (i : Nat) (d : Done), T[i]? = some d → wantedA ⟨ops⟩ d.o ⟨nt, tmA d.lo, hpL h0⟩ = some d.run
  skip : ∀ (i : Nat) (d : Done), T[i]? = some d → d.run = false → d.v = .und ∧ d.ws = []
  ok : ∀ (i : Nat) (d : Done), T[i]? = some d → d.run = true → OpOk P d.o ⟨nt, tmA d.lo, hpS T 0 (fun j => decide (j < i)) (hpL h0)⟩ ⟨d.v, d.ws⟩

theorem tmS_append : ∀ (T U : List Done) (i : Nat) (S : Nat → Bool) (tm : Nat → AV), tmS (T ++ U) i S tm = tmS U (i + T.length) S (tmS T i S tm)
  | [], U, i, S, tm => by simp [tmS]
  | d :: T, U, i, S, tm => by
    simp only [List.cons_append, tmS, List.length_cons]
    rw [tmS_append T U (i + 1) S _, show i + 1 + T.length = i + (T.length + 1) by omega]
theorem hpS_append : ∀ (T U : List Done) (i : Nat) (S : Nat → Bool) (hp : Hp), hpS (T ++ U) i S hp = hpS U (i + T.length) S (hpS T i S hp)
  | [], U, i, S, hp => by simp [hpS]
  | d :: T, U, i, S, hp => by
    simp only [List.cons_append, hpS, List.length_cons]
    rw [hpS_append T U (i + 1) S _, show i + 1 + T.length = i + (T.length + 1) by omega]

theorem DSt.add {P : Program} {nt : Nat} {ops : List Oper} {l0 : Tm} {h0 : Hl} {o : Oper} {rest : List Oper} {T : List Done} {Td : List Dd} {hs : List Hl} {l l' : Tm} {h h' : Hl} (D : DSt P nt ops l0 h0 (o :: rest) T Td hs l h) (d : Done) (b : Dd) (ho : d.o = o)
    (hb : b.dst = d.o.dst ∧ b.ks = d.lo.map (·.1) ∧ b.loud = !d.ws.isEmpty) (hlo : ∀ p ∈ d.lo, tmA l p.1 = p.2) (hw : wantedA ⟨ops⟩ d.o ⟨nt, tmA d.lo, hpL h0⟩ = some d.run) (hsk : d.run = false → d.v = .und ∧ d.ws = [])
    (hok : d.run = true → OpOk P d.o ⟨nt, tmA d.lo, hpL h⟩ ⟨d.v, d.ws⟩) (hl : effT d (tmA l) = tmA l') (hh : writes (hpL h) d.ws = hpL h') : DSt P nt ops l0 h0 rest (T ++ [d]) (Td ++ [b]) (hs ++ [h]) l' h' := by
  have hTl : ∀ i, i ≤ T.length → tmS (T ++ [d]) 0 (fun j => decide (j < i)) (tmA l0) = tmS T 0 (fun j => decide (j < i)) (tmA l0) := fun i hi => by
    rw [tmS_append]; simp only [tmS, Nat.zero_add]; rw [if_neg (by simp; omega)]
  have hHl : ∀ i, i ≤ T.length → hpS (T ++ [d]) 0 (fun j => decide (j < i)) (hpL h0) = hpS T 0 (fun j => decide (j < i)) (hpL h0) := fun i hi => by
    rw [hpS_append]; simp only [hpS, Nat.zero_add]; rw [if_neg (by simp; omega)]
  have hTe : tmS T 0 (fun j => decide (j < T.length)) (tmA l0) = tmA l := by
    rw [← D.tm]; funext t
    exact tmS_congr T 0 _ _ _ _ t rfl fun j dj hj _ => by have := (List.getElem?_eq_some_iff.1 hj).1; simp [this]
  have hHe : hpS T 0 (fun j => decide (j < T.length)) (hpL h0) = hpL h := by
    rw [← D.hp]
    exact hpS_congr T 0 _ _ _ fun j dj hj _ => by have := (List.getElem?_eq_some_iff.1 hj).1; simp [this]
  have cases_ : ∀ (i : Nat) (e : Done), (T ++ [d])[i]? = some e → (T[i]? = some e ∧ i < T.length) ∨ (i = T.length ∧ e = d) := fun i e he => by
    by_cases hi : i < T.length
    · rw [List.getElem?_append_left hi] at he; exact .inl ⟨he, hi⟩
    · rw [List.getElem?_append_right (by omega)] at he
      have : i - T.length = 0 := by have := (List.getElem?_eq_some_iff.1 he).1; simp at this; omega
      rw [this] at he; simp at he
      exact .inr ⟨by omega, he.symm⟩
  obtain ⟨dl, dd⟩ := D.dd
  refine ⟨by rw [← D.opsEq]; simp [ho], ⟨by simp [dl], fun i e c he hc => ?_⟩, ?_, ?_, by simp [D.hsl], fun i hi he => ?_, fun i e he => ?_, fun i e he => ?_, fun i e he => ?_, fun i e he => ?_⟩
  · rcases cases_ i e he with ⟨h1, h2⟩ | ⟨rfl, rfl⟩
    · rw [List.getElem?_append_left (by omega)] at hc; exact dd i e c h1 hc
    · rw [List.getElem?_append_right (by omega), dl] at hc
      simp at hc; subst hc; exact hb
  · rw [tmS_append, D.tm]; simp only [tmS, if_true]; exact hl
  · rw [hpS_append, D.hp]; simp only [hpS, if_true]; exact hh
  · by_cases hi' : i < hs.length
    · rw [List.getElem?_append_left hi'] at he
      rw [hHl i (by have := D.hsl; omega)]; exact D.hs i hi he
    · rw [List.getElem?_append_right (by omega)] at he
      have h1 : i - hs.length = 0 := by have := (List.getElem?_eq_some_iff.1 he).1; simp at this; omega
      rw [h1] at he; simp at he; subst he
      have h2 : i = T.length := by have := D.hsl; omega
      subst h2
      rw [hHl _ (Nat.le_refl _)]; exact hHe
  · rcases cases_ i e he with ⟨h1, h2⟩ | ⟨rfl, rfl⟩
    · rw [hTl i (by omega)]; exact D.lex i e h1
    · rw [hTl _ (Nat.le_refl _), hTe]; exact hlo
  · rcases cases_ i e he with ⟨h1, h2⟩ | ⟨rfl, rfl⟩
    · exact D.want i e h1
    · exact hw
  · rcases cases_ i e he with ⟨h1, h2⟩ | ⟨rfl, rfl⟩
    · exact D.skip i e h1
    · exact hsk
  · rcases cases_ i e he with ⟨h1, h2⟩ | ⟨rfl, rfl⟩
    · rw [hHl i (by omega)]; exact D.ok i e h1
    · rw [hHl _ (Nat.le_refl _), hHe]; exact hok

/-- Where else, in some order, a quiet operation may stand: at which heaps. -/
def stagesG : Nat → List Dd → List Nat
  | _, [] => []
  | i, d :: T => match d.loud with
    | true => (i + 1) :: stagesG (i + 1) T
    | false => stagesG (i + 1) T
def okStage (ps : List Nat) (T : List Dd) (i b : Nat) : Bool :=
  allI (fun j d => !d.loud || (match Nat.blt j b with
    | true => !(bfB ps i j) && !(Nat.beq i j)
    | false => !(bfB ps j i))) 0 T
/-- All (operation, heap) that are still to be looked at. -/
def isLex (T : List Dd) (i b : Nat) : Bool := Nat.ble b i && allI (fun j d => !d.loud || Nat.blt j b || !(Nat.blt j i)) 0 T
def oblL (ps : List Nat) (T : List Dd) : Nat → List Dd → List (Nat × Nat)
  | _, [] => []
  | i, _ :: r => ((0 :: stagesG 0 T).filter fun b => okStage ps T i b && !(isLex T i b)).map (fun b => (i, b)) ++ oblL ps T (i + 1) r

def oblF (f0 : Nat) (L : List (Nat × Nat)) : List (Nat × Nat) := L.filter fun p => !(Nat.beq p.1 f0) && (Nat.ble p.2 f0 || Nat.blt (f0 + 1) p.2 || Nat.ble f0 p.1)
def Obl (P : Program) (nt : Nat) (T : List Done) (hs : List Hl) (h : Hl) : List (Nat × Nat) → Prop
  | [] => True
  | p :: r => (match T[p.1]? with
    | some d => d.run = true → OpOk P d.o ⟨nt, tmA d.lo, hpL ((hs ++ [h]).getD p.2 [])⟩ ⟨d.v, d.ws⟩
    | none => True) ∧ Obl P nt T hs h r
theorem Obl.mem {P : Program} {nt : Nat} {T : List Done} {hs : List Hl} {h : Hl} : ∀ {L : List (Nat × Nat)}, Obl P nt T hs h L → ∀ p ∈ L, ∀ d, T[p.1]? = some d → d.run = true → OpOk P d.o ⟨nt, tmA d.lo, hpL ((hs ++ [h]).getD p.2 [])⟩ ⟨d.v, d.ws⟩
  | [], _, p, hp, _, _, _ => by simp at hp
  | q :: r, ho, p, hp, d, hd, hr => by
    simp only [Obl] at ho
    rcases List.mem_cons.1 hp with rfl | hp
    · have := ho.1
      rw [hd] at this; exact this hr
    · exact Obl.mem ho.2 p hp d hd hr

theorem mem_oblL {ps : List Nat} {T : List Dd} : ∀ {r : List Dd} {k i : Nat} {b : Nat}, i < r.length → b ∈ 0 :: stagesG 0 T → (okStage ps T (k + i) b && !(isLex T (k + i) b)) = true → (k + i, b) ∈ oblL ps T k r
  | [], k, i, b, hi, _, _ => by simp at hi
  | d :: r, k, 0, b, hi, hb, ho => by
    simp only [oblL, List.mem_append, List.mem_map, List.mem_filter]
    exact .inl ⟨b, ⟨hb, ho⟩, rfl⟩
  | d :: r, k, i + 1, b, hi, hb, ho => by
    simp only [oblL, List.mem_append]
    refine .inr ?_
    have := mem_oblL (r := r) (k := k + 1) (i := i) (b := b) (by simpa using hi) hb (by rwa [show k + 1 + i = k + (i + 1) by omega])
    rwa [show k + 1 + i = k + (i + 1) by omega] at this
theorem mem_stagesG : ∀ {T : List Dd} {k j : Nat} {d : Dd}, T[j]? = some d → d.loud = true → k + j + 1 ∈ stagesG k T
  | [], k, j, d, h, _ => by simp at h
  | e :: T, k, 0, d, h, hl => by simp at h; subst h; simp [stagesG, hl]
  | e :: T, k, j + 1, d, h, hl => by
    have := mem_stagesG (T := T) (k := k + 1) (j := j) (d := d) (by simpa using h) hl
    rw [show k + 1 + j + 1 = k + (j + 1) + 1 by omega] at this
    simp only [stagesG]
    split
    · exact List.mem_cons_of_mem _ this
    · exact this

theorem bfB_bef {ops : List Oper} {i j : Nat} (h : bfB (preds ops) j i = true) {S : Nat → Bool} (hD : Down ops S) {o : Oper} (ho : ops[i]? = some o) (hd : ∀ j ∈ direct o, S j = true) : S j = true := by
  unfold bfB at h
  cases hp : (preds ops)[i]? with
  | none => rw [List.getD_eq_getElem?_getD, hp] at h; simp at h
  | some l =>
    rw [List.getD_eq_getElem?_getD, hp] at h
    exact preds_ok hD hp ho hd j h

/-- Every order of the region comes to what the text's order comes to. -/
theorem goDrawEnd {P : Program} (hm : P.follows .mixedOrders = true) {V nt : Nat} {Q : Exit → St → Prop} {k : List Kf} {id : Nat} {ops : List Oper} {l0 l : Tm} {h0 h : Hl} {T : List Done} {Td : List Dd} {hs : List Hl}
    (D : DSt P nt ops l0 h0 [] T Td hs l h) (f0 : Nat) (hc : chkD ops Td f0 = true)
    (hfree : ∀ d, T[f0]? = some d → ∃ N blk, d.ws = [(N, blk)] ∧ hpL h0 N = none ∧ (∀ H : Hp, H N = none → d.run = true → OpOk P d.o ⟨nt, tmA d.lo, H⟩ ⟨d.v, d.ws⟩) ∧
      (∀ (i : Nat) (di : Done), i < f0 → T[i]? = some di → (∀ p ∈ di.ws, p.1 ≠ N) ∧ (∀ t, N ∉ (tmA di.lo t).refs) ∧ N ∉ di.v.refs) ∧ (∀ b, b ≤ f0 → ∀ id c, hpS T 0 (fun j => decide (j < b)) (hpL h0) id = some c → N ∉ c.refs)) {L : List (Nat × Nat)} (hL : oblF f0 (oblL (preds ops) Td 0 Td) = L) (ho : Obl P nt T hs h L)
    (hg : AGo P V Q k .normal ⟨nt, tmA l, hpL h⟩) : AGo P V Q (.code (.region id ⟨ops⟩ true) :: k) .normal ⟨nt, tmA l0, hpL h0⟩ := by
  subst hL
  simp only [AGo]
  simp only [chkD, Bool.and_eq_true] at hc
  obtain ⟨⟨⟨⟨c1, c2⟩, c3⟩, c4⟩, c5⟩ := hc
  obtain ⟨dl, dd⟩ := D.dd
  have hops : T.map (·.o) = ops := by have := D.opsEq; simpa using this
  have getd : ∀ (i : Nat) (d : Done), T[i]? = some d → ∃ b, Td[i]? = some b ∧ b.dst = d.o.dst ∧ b.ks = d.lo.map (·.1) ∧ b.loud = !d.ws.isEmpty := fun i d hd => by
    have hi := (List.getElem?_eq_some_iff.1 hd).1
    obtain ⟨b, hb⟩ : ∃ b, Td[i]? = some b := ⟨_, List.getElem?_eq_getElem (by omega)⟩
    exact ⟨b, hb, dd i d b hd hb⟩
  have foll : ∀ (i q : Nat) (d : Done), f0 < i → q ≤ f0 → T[q]? = some d → (d.ws ≠ [] ∨ q = f0) → i < T.length → bfB (preds ops) q i = true := fun i q d h1 h2 hq h4 h3 => by
    obtain ⟨bi, hbi⟩ : ∃ bi, Td[i]? = some bi := ⟨_, List.getElem?_eq_getElem (by omega)⟩
    obtain ⟨bq, hbq, _, _, e3⟩ := getd q d hq
    have := allI_at c5 hbi
    rw [Nat.zero_add] at this
    have hb : Nat.blt f0 i = true := Nat.ble_eq_true_of_le h1
    rw [hb] at this
    have := allI_at this hbq
    rw [Nat.zero_add] at this
    have hq0 : Nat.blt f0 q = false := by
      cases h : Nat.blt f0 q with
      | false => rfl
      | true => have := Nat.le_of_ble_eq_true h; omega
    have hl : (bq.loud || Nat.beq q f0) = true := by
      rcases h4 with h | h
      · rw [e3]; simp [h]
      · subst h; simp
    rw [hq0, hl] at this
    simpa using this
  have nofoll : ∀ i, i < f0 → i < T.length → bfB (preds ops) f0 i = false := fun i h1 h3 => by
    obtain ⟨bi, hbi⟩ : ∃ bi, Td[i]? = some bi := ⟨_, List.getElem?_eq_getElem (by omega)⟩
    have := allI_at c5 hbi
    rw [Nat.zero_add] at this
    have hb : Nat.blt f0 i = false := by
      cases h : Nat.blt f0 i with
      | false => rfl
      | true => have := Nat.le_of_ble_eq_true h; omega
    rw [hb] at this
    simp only [Bool.or_eq_true, Bool.not_eq_true'] at this
    rcases this with h | h
    · have := Nat.eq_of_beq_eq_true h; omega
    · exact h
  have ord : ∀ {i j : Nat}, ordB (preds ops) i j = true → (j < i → bfB (preds ops) j i = true) ∧ (i < j → bfB (preds ops) i j = true) := fun {i j} h => by
    unfold ordB at h
    split at h
    · rename_i hb
      have := Nat.le_of_ble_eq_true hb
      exact ⟨fun _ => h, fun hij => by omega⟩
    · rename_i hb
      refine ⟨fun hji => ?_, fun _ => h⟩
      have : Nat.blt j i = true := Nat.ble_eq_true_of_le hji
      rw [this] at hb; simp at hb
  have DD : Drawn P nt ⟨ops⟩ T (tmA l0) (hpL h0) (fun j i => bfB (preds ops) j i) f0 := by
    refine ⟨hops, fun i o hio j hj => ?_, fun i j hb S hD o hio hd => bfB_bef hb hD (by simpa using hio) hd, fun i d hd p hp j d' hd' hdst => ?_, fun i j d d' t hij hd hd' ht ht' => ?_, fun i j d d' hij hd hd' hw hw' => ?_, D.lex, fun i d hd t => ?_, D.want, D.skip, fun i d hd hr hif b hb hbf0 hbm hcons => ?_, foll, hfree⟩
    · have := allI_at c1 (j := i) (x := o) (by simpa using hio)
      rw [Nat.zero_add, List.all_eq_true] at this
      exact Nat.le_of_ble_eq_true (this j hj)
    · obtain ⟨b, hb, e1, e2, _⟩ := getd i d hd
      obtain ⟨b', hb', e1', _, _⟩ := getd j d' hd'
      have h1 := allI_at c2 hb
      rw [Nat.zero_add, List.all_eq_true] at h1
      have h2 := allI_at (h1 p.1 (by rw [e2]; exact List.mem_map_of_mem hp)) hb'
      rw [Nat.zero_add] at h2
      simp only [Bool.or_eq_true] at h2
      rcases h2 with (h2 | h2) | h2
      · have := Nat.eq_of_beq_eq_true h2; exact ⟨fun h => by omega, fun h => by omega⟩
      · rw [e1', hdst] at h2; simp at h2
      · exact ord h2
    · obtain ⟨b, hb, e1, _, _⟩ := getd i d hd
      obtain ⟨b', hb', e1', _, _⟩ := getd j d' hd'
      have h2 := allI_at (allI_at c3 hb) hb'
      rw [Nat.zero_add, Nat.zero_add] at h2
      simp only [Bool.or_eq_true] at h2
      rcases h2 with (h2 | h2) | h2
      · have := Nat.eq_of_beq_eq_true h2; omega
      · rw [e1, ht, e1', ht'] at h2; simp at h2
      · exact (ord h2).2 hij
    · obtain ⟨b, hb, _, _, e3⟩ := getd i d hd
      obtain ⟨b', hb', _, _, e3'⟩ := getd j d' hd'
      have h2 := allI_at (allI_at c4 hb) hb'
      rw [Nat.zero_add, Nat.zero_add] at h2
      simp only [Bool.or_eq_true, Bool.not_eq_true'] at h2
      rcases h2 with ((((h2 | h2) | h2) | h2) | h2) | h2
      · have := Nat.eq_of_beq_eq_true h2; omega
      · rw [e3] at h2; exact absurd (by simpa using h2) hw
      · rw [e3'] at h2; exact absurd (by simpa using h2) hw'
      · exact .inl ((ord h2).2 hij)
      · have := Nat.eq_of_beq_eq_true h2
        exact .inl (foll j i d (by omega) (by omega) hd (.inl hw) (List.getElem?_eq_some_iff.1 hd').1)
      · exact .inr (Nat.eq_of_beq_eq_true h2)
    · have : ∀ l : Tm, tmA l t = .any ∨ (t, tmA l t) ∈ l := by
        intro l
        induction l with
        | nil => exact .inl rfl
        | cons p l ih =>
          simp only [tmA]
          split
          · rename_i hb
            exact .inr (by rw [Nat.eq_of_beq_eq_true hb]; simp)
          · rcases ih with h | h
            · exact .inl h
            · exact .inr (List.mem_cons_of_mem _ h)
      exact this d.lo
    · -- the stage that 'b' stands for
      obtain ⟨c, h1, h2, h3, hcb⟩ : ∃ c, (c = 0 ∨ ∃ j dj, c = j + 1 ∧ j < b ∧ Td[j]? = some dj ∧ dj.loud = true) ∧ c ≤ b ∧ (∀ (j : Nat) (dj : Dd), Td[j]? = some dj → dj.loud = true → c ≤ j → j < b → False) ∧ c = b := by
        refine ⟨b, ?_, Nat.le_refl _, fun j dj _ _ _ _ => by omega, rfl⟩
        rcases hbm with h | ⟨m, dm, h4, h5, h6⟩
        · exact .inl h
        · obtain ⟨bm, hbm, _, _, e3⟩ := getd m dm h5
          exact .inr ⟨m, bm, h4, by omega, hbm, by rw [e3]; simp [h6]⟩
      have hloud : ∀ (j : Nat) (dj : Done) (bj : Dd), T[j]? = some dj → Td[j]? = some bj → (bj.loud = true ↔ dj.ws ≠ []) := fun j dj bj hdj hbj => by
        obtain ⟨b', hb', _, _, e3⟩ := getd j dj hdj
        rw [hbj] at hb'
        obtain rfl := Option.some.inj hb'
        rw [e3]; simp
      have hheap : ∀ (c c' : Nat), (∀ (j : Nat) (dj : Dd), Td[j]? = some dj → dj.loud = true → (j < c ↔ j < c')) → hpS T 0 (fun j => decide (j < c)) (hpL h0) = hpS T 0 (fun j => decide (j < c')) (hpL h0) := fun c c' hcc =>
        hpS_congr T 0 _ _ _ fun j dj hj hw => by
          obtain ⟨bj, hbj, _⟩ := getd j dj hj
          have := hcc j bj hbj ((hloud j dj bj hj hbj).2 hw)
          rw [Nat.zero_add]
          by_cases h1 : j < c
          · simp [h1, this.1 h1]
          · have h2 : ¬ j < c' := fun h => h1 (this.2 h)
            simp [h1, h2]
      have hT : ∀ (j : Nat) (bj : Dd), Td[j]? = some bj → ∃ dj, T[j]? = some dj := fun j bj hj => ⟨_, List.getElem?_eq_getElem (by have := (List.getElem?_eq_some_iff.1 hj).1; omega)⟩
      have hbc := hheap b c fun j bj hj hl => ⟨fun hjb => Nat.lt_of_not_le fun hcj => h3 j bj hj hl hcj hjb, fun hjc => by omega⟩
      rw [hbc]
      obtain ⟨bi, hbi, _, _, _⟩ := getd i d hd
      have hil := (List.getElem?_eq_some_iff.1 hd).1
      have hst : okStage (preds ops) Td i c = true := by
        have : ∀ (L : List Dd) (k : Nat), (∀ (j : Nat) (dj : Dd), L[j]? = some dj → (!dj.loud || (match Nat.blt (k + j) c with | true => !(bfB (preds ops) i (k + j)) && !(Nat.beq i (k + j)) | false => !(bfB (preds ops) (k + j) i))) = true) →
            allI (fun j d => !d.loud || (match Nat.blt j c with | true => !(bfB (preds ops) i j) && !(Nat.beq i j) | false => !(bfB (preds ops) j i))) k L = true := by
          intro L
          induction L with
          | nil => intro k _; rfl
          | cons e L ih =>
            intro k hk
            simp only [allI, Bool.and_eq_true]
            refine ⟨by have := hk 0 e rfl; rwa [Nat.add_zero] at this, ih (k + 1) fun j dj hj => ?_⟩
            have := hk (j + 1) dj (by simpa using hj)
            rwa [show k + (j + 1) = k + 1 + j by omega] at this
        refine this Td 0 fun j dj hj => ?_
        rw [Nat.zero_add]
        cases hl : dj.loud with
        | false => rfl
        | true =>
          obtain ⟨tj, htj⟩ := hT j dj hj
          simp only [Bool.not_true, Bool.false_or]
          by_cases hnt : j = f0 ∧ i < f0 ∧ b ≤ f0
          · obtain ⟨rfl, hij, hbj⟩ := hnt
            have hcf : Nat.blt j c = false := by
              cases h : Nat.blt j c with
              | false => rfl
              | true => have := Nat.le_of_ble_eq_true h; omega
            rw [hcf]
            simp only [Bool.not_eq_true']
            exact nofoll i hij (by omega)
          obtain ⟨k1, k2⟩ := hcons j tj htj ((hloud j tj dj htj hj).1 hl) hnt
          split
          · rename_i hjc
            have hjc' : j < c := Nat.le_of_ble_eq_true hjc
            simp only [Bool.and_eq_true, Bool.not_eq_true']
            constructor
            · cases hbf : bfB (preds ops) i j with
              | false => rfl
              | true => have := k2 (.inl hbf); omega
            · cases hbe : Nat.beq i j with
              | false => rfl
              | true => have := k2 (.inr (Nat.eq_of_beq_eq_true hbe).symm); omega
          · rename_i hjc
            have hjc' : ¬ j < c := fun h => by have : Nat.blt j c = true := Nat.ble_eq_true_of_le h; rw [this] at hjc; simp at hjc
            cases hbf : bfB (preds ops) j i with
            | false => rfl
            | true => exact (h3 j dj hj hl (by omega) (k1 hbf)).elim
      cases hlex : isLex Td i c with
      | true =>
        simp only [isLex, Bool.and_eq_true] at hlex
        obtain ⟨g1, g2⟩ := hlex
        have hci := Nat.le_of_ble_eq_true g1
        rw [hheap c i fun j bj hj hl => ⟨fun h => by omega, fun h => by
          have := allI_at g2 hj
          rw [Nat.zero_add, hl] at this
          simp only [Bool.not_true, Bool.false_or, Bool.or_eq_true, Bool.not_eq_true'] at this
          rcases this with h5 | h5
          · exact Nat.le_of_ble_eq_true h5
          · have : Nat.blt j i = true := Nat.ble_eq_true_of_le h
            rw [this] at h5; simp at h5⟩]
        exact D.ok i d hd hr
      | false =>
        have hmem : (i, c) ∈ oblL (preds ops) Td 0 Td := by
          have := mem_oblL (ps := preds ops) (T := Td) (r := Td) (k := 0) (i := i) (b := c) (by omega) (by
            rcases h1 with rfl | ⟨j, dj, rfl, _, h5, h6⟩
            · simp
            · have := mem_stagesG (k := 0) h5 h6
              rw [Nat.zero_add] at this
              exact List.mem_cons_of_mem _ this) (by rw [Nat.zero_add, hst, hlex]; rfl)
          rwa [Nat.zero_add] at this
        have hmemF : (i, c) ∈ oblF f0 (oblL (preds ops) Td 0 Td) := by
          simp only [oblF, List.mem_filter, Bool.and_eq_true, Bool.not_eq_true', Bool.or_eq_true]
          refine ⟨hmem, ?_, ?_⟩
          · cases hbe : Nat.beq i f0 with
            | false => rfl
            | true => exact absurd (Nat.eq_of_beq_eq_true hbe) hif
          · rcases Nat.lt_or_ge i f0 with h | h
            · rcases hbf0 h with h | h
              · exact .inl (.inl (Nat.ble_eq_true_of_le (by omega)))
              · exact .inl (.inr (Nat.ble_eq_true_of_le (by omega)))
            · exact .inr (Nat.ble_eq_true_of_le h)
        have := Obl.mem ho (i, c) hmemF d hd hr
        have hhc : hpS T 0 (fun j => decide (j < c)) (hpL h0) = hpL ((hs ++ [h]).getD c []) := by
          by_cases hcl : c < hs.length
          · have e : (hs ++ [h]).getD c [] = hs[c] := by simp [List.getD_eq_getElem?_getD, List.getElem?_append_left hcl, hcl]
            rw [e]
            exact D.hs c _ (List.getElem?_eq_getElem hcl)
          · have hcT : c = T.length := by have := D.hsl; omega
            have e : (hs ++ [h]).getD c [] = h := by simp [List.getD_eq_getElem?_getD, hcT, D.hsl]
            rw [e, ← D.hp]
            exact hpS_congr T 0 _ _ _ fun j dj hj _ => by have := (List.getElem?_eq_some_iff.1 hj).1; simp; omega
        rw [hhc]; exact this
  refine drawn_wp hm DD ?_
  rw [D.tm, D.hp]
  exact hg

/-! ### The walk -/
structure De where
  o : Oper
  lo : Tm
  run : Bool
  v : AV
  loud : Bool
  fw : Option (Nat × Blk)
def De.dd (e : De) : Dd := ⟨e.o.dst, e.lo.map (·.1), e.loud⟩

def DGo (P : Program) (V nt : Nat) (Q : Exit → St → Prop) (k : List Kf) (id : Nat) (ops : List Oper) (l0 : Tm) (h0 : Hl) (rest : List Oper) (E : List De) (hs : List Hl) (l : Tm) (h : Hl) : Prop :=
  ∀ T, DSt P nt ops l0 h0 rest T (E.map De.dd) hs l h → (∀ (i : Nat) (d : Done) (e : De), T[i]? = some d → E[i]? = some e → d.o = e.o ∧ d.lo = e.lo ∧ d.run = e.run ∧ d.v = e.v ∧ ∀ p, e.fw = some p → d.ws = [p]) →
    AGo P V Q (.code (.region id ⟨ops⟩ true) :: k) .normal ⟨nt, tmA l0, hpL h0⟩

def opTs (ops : List Oper) (o : Oper) : List Tmp :=
  (match o.guard with
   | some (g, _) => (match ops[g]? with
     | some og => (match og.dst with | some t => [t] | none => [])
     | none => [])
   | none => []) ++ o.op.operands.toList.filterMap fun | .tmp t => some t | _ => none
def onlyK {β : Type} (l : Tm) : List Tmp → (Tm → β) → β
  | [], k => k []
  | t :: ts, k => nfT (tmA l t) fun v => onlyK l ts fun r => k ((t, v) :: r)
theorem onlyK_eq {β : Type} (l : Tm) : ∀ (ts : List Tmp) (k : Tm → β), onlyK l ts k = k (ts.map fun t => (t, tmA l t))
  | [], k => rfl
  | t :: ts, k => by simp only [onlyK, nfT_eq, onlyK_eq l ts, List.map_cons]

section
variable {P : Program} {F : Ty} [hF : TyF P F] {V nt : Nat} {Q : Exit → St → Prop} {k : List Kf} {id : Nat} {ops : List Oper} {l0 : Tm} {h0 : Hl} {o : Oper} {rest : List Oper} {E : List De} {hs : List Hl} {l l' : Tm} {h h' : Hl}

theorem goDraw (hg : DGo P V nt Q k id ops l h ops [] [] l h) : AGo P V Q (.code (.region id ⟨ops⟩ true) :: k) .normal ⟨nt, tmA l, hpL h⟩ := by
  refine hg [] ⟨by simp, by simp, rfl, rfl, rfl, by simp, by simp, by simp, by simp, by simp⟩ (by simp)

theorem dgoAdd {e : De} {ws : List (Nat × Blk)} (ho : e.o = o) (hlo : ∀ p ∈ e.lo, tmA l p.1 = p.2) (hw : wantedA ⟨ops⟩ o ⟨nt, tmA e.lo, hpL h⟩ = some e.run) (hsk : e.run = false → e.v = .und ∧ ws = [])
    (hok : e.run = true → OpOk P o ⟨nt, tmA e.lo, hpL h⟩ ⟨e.v, ws⟩) (hl : putL o.dst e.v l = l') (hloud : e.loud = !ws.isEmpty) (hfw : ∀ p, e.fw = some p → ws = [p]) (hh : writes (hpL h) ws = hpL h')
    (hg : DGo P V nt Q k id ops l0 h0 rest (E ++ [e]) (hs ++ [h]) l' h') : DGo P V nt Q k id ops l0 h0 (o :: rest) E hs l h := by
  intro T D hE
  subst ho
  obtain ⟨eo, elo, erun, ev, eloud, efw⟩ := e
  simp only at hlo hw hsk hok hl hloud hfw
  subst hloud
  refine hg (T ++ [⟨eo, elo, erun, ev, ws⟩]) ?_ ?_
  · rw [List.map_append]
    refine D.add ⟨eo, elo, erun, ev, ws⟩ _ rfl ⟨rfl, rfl, rfl⟩ hlo hw hsk hok ?_ hh
    rw [← hl]
    unfold effT putL
    simp only
    cases eo.dst with
    | none => rfl
    | some t => exact tmA_upd ..
  · intro i d e hd he
    have hlen : E.length = T.length := by have := D.dd.1; simpa using this
    by_cases hi : i < T.length
    · rw [List.getElem?_append_left hi] at hd
      rw [List.getElem?_append_left (by omega)] at he
      exact hE i d e hd he
    · rw [List.getElem?_append_right (by omega)] at hd he
      have : i - T.length = 0 := by have := (List.getElem?_eq_some_iff.1 hd).1; simp at this; omega
      rw [this] at hd
      rw [show i - E.length = 0 by omega] at he
      simp at hd he
      subst hd he
      exact ⟨rfl, rfl, rfl, rfl, hfw⟩

def runD1 (F : Ty) (nt : Nat) (ops : List Oper) (o : Oper) (l : Tm) (h : Hl) : Option (De × Tm × Hl) :=
  match o.op with
  | .alloc _ => none
  | _ => onlyK l (opTs ops o) fun lo => match wantedA ⟨ops⟩ o ⟨nt, tmA lo, hpL h⟩ with
    | some false => (match o.dst with
      | some d => some (⟨o, lo, false, .und, false, none⟩, (d, .und) :: l, h)
      | none => some (⟨o, lo, false, .und, false, none⟩, l, h))
    | some true => (match evQ F ⟨nt, tmA lo, hpL h⟩ h o with
      | some (v, h') => (match loudOp o with
        | true => (match o.dst with
          | some d => nfT v fun v => some (⟨o, lo, true, v, true, none⟩, (d, v) :: l, h')
          | none => nfT v fun v => some (⟨o, lo, true, v, true, none⟩, l, h'))
        | false => (match o.dst with
          | some d => nfT v fun v => some (⟨o, lo, true, v, false, none⟩, (d, v) :: l, h')
          | none => nfT v fun v => some (⟨o, lo, true, v, false, none⟩, l, h')))
      | none => none)
    | none => none

theorem dgo1 {e : De} (he : runD1 F nt ops o l h = some (e, l', h')) (hg : DGo P V nt Q k id ops l0 h0 rest (E ++ [e]) (hs ++ [h]) l' h') : DGo P V nt Q k id ops l0 h0 (o :: rest) E hs l h := by
  have hF := hF.eq
  subst hF
  unfold runD1 at he
  split at he
  · simp at he
  rw [onlyK_eq] at he
  have hlo : ∀ p ∈ (opTs ops o).map (fun t => (t, tmA l t)), tmA l p.1 = p.2 := fun p hp => by
    obtain ⟨t, _, rfl⟩ := List.mem_map.1 hp; rfl
  split at he
  · rename_i hw
    split at he <;> (rename_i hd; simp at he; obtain ⟨rfl, rfl, rfl⟩ := he)
    · exact dgoAdd (ws := []) rfl hlo hw (fun _ => ⟨rfl, rfl⟩) (fun h => by simp at h) (by simp [putL, hd]) rfl (by simp) rfl hg
    · exact dgoAdd (ws := []) rfl hlo hw (fun _ => ⟨rfl, rfl⟩) (fun h => by simp at h) (by simp [putL, hd]) rfl (by simp) rfl hg
  · rename_i hw
    split at he
    · rename_i v h2 hq
      obtain ⟨ws, k1, k2, k3⟩ := evQ_ok rfl hq
      split at he <;> (rename_i hld; split at he) <;> (rename_i hd; rw [nfT_eq] at he; simp at he; obtain ⟨rfl, rfl, rfl⟩ := he; exact dgoAdd (ws := ws) rfl hlo hw (fun h => by simp at h) (fun _ => k1) (by simp [putL, hd]) (by rw [← k3, hld]) (by simp) k2 hg)
    · simp at he
  · simp at he

def nthK : List Hl → Nat → (Hl → Prop) → Prop
  | x :: _, 0, k => k x
  | _ :: l, n + 1, k => nthK l n k
  | [], _, k => k []
theorem nthK_eq : ∀ (l : List Hl) (n : Nat) (k : Hl → Prop), nthK l n k = k (l.getD n [])
  | [], n, k => by simp [nthK]
  | x :: l, 0, k => by simp [nthK]
  | x :: l, n + 1, k => by simp [nthK, nthK_eq l n k]
def OblE (P : Program) (nt : Nat) (E : List De) (hs : List Hl) (h : Hl) : List (Nat × Nat) → Prop
  | [] => True
  | p :: r => (match E[p.1]? with
    | some e => e.run = true → e.loud = false ∧ nthK (hs ++ [h]) p.2 fun hb => OpOk P e.o ⟨nt, tmA e.lo, hpL hb⟩ ⟨e.v, []⟩
    | none => False) ∧ OblE P nt E hs h r

theorem dgoEndG (hm : P.follows .mixedOrders = true) (f0 : Nat) (hc : chkD ops (E.map De.dd) f0 = true) {L : List (Nat × Nat)} (hL : oblF f0 (oblL (preds ops) (E.map De.dd) 0 (E.map De.dd)) = L) (ho : OblE P nt E hs h L)
    (hfree : ∀ T, DSt P nt ops l0 h0 [] T (E.map De.dd) hs l h → (∀ (i : Nat) (d : Done) (e : De), T[i]? = some d → E[i]? = some e → d.o = e.o ∧ d.lo = e.lo ∧ d.run = e.run ∧ d.v = e.v ∧ ∀ p, e.fw = some p → d.ws = [p]) →
      ∀ d, T[f0]? = some d → ∃ N blk, d.ws = [(N, blk)] ∧ hpL h0 N = none ∧ (∀ H : Hp, H N = none → d.run = true → OpOk P d.o ⟨nt, tmA d.lo, H⟩ ⟨d.v, d.ws⟩) ∧
      (∀ (i : Nat) (di : Done), i < f0 → T[i]? = some di → (∀ p ∈ di.ws, p.1 ≠ N) ∧ (∀ t, N ∉ (tmA di.lo t).refs) ∧ N ∉ di.v.refs) ∧ (∀ b, b ≤ f0 → ∀ id c, hpS T 0 (fun j => decide (j < b)) (hpL h0) id = some c → N ∉ c.refs))
    (hg : AGo P V Q k .normal ⟨nt, tmA l, hpL h⟩) : DGo P V nt Q k id ops l0 h0 [] E hs l h := by
  intro T D hE
  refine goDrawEnd hm D f0 hc (hfree T D hE) hL ?_ hg
  have hlen : E.length = T.length := by have := D.dd.1; simpa using this
  clear hL
  induction L with
  | nil => trivial
  | cons p r ih =>
    simp only [OblE] at ho
    refine ⟨?_, ih ho.2⟩
    split
    · rename_i d hd
      intro hr
      have hi := (List.getElem?_eq_some_iff.1 hd).1
      obtain ⟨e, he⟩ : ∃ e, E[p.1]? = some e := ⟨_, List.getElem?_eq_getElem (by omega)⟩
      have h1 := ho.1
      rw [he] at h1
      simp only [nthK_eq] at h1
      obtain ⟨e1, e2, e3, e4, _⟩ := hE p.1 d e hd he
      replace h1 := h1 (e3.symm.trans hr)
      obtain ⟨_, dd⟩ := D.dd
      obtain ⟨_, _, h3⟩ := dd p.1 d e.dd hd (by simp [he])
      have hws : d.ws = [] := by
        have : e.dd.loud = e.loud := rfl
        rw [this, h1.1] at h3
        simpa using h3.symm
      rw [e1, e2, e4, hws]
      exact h1.2
    · trivial
theorem dgoEnd (hm : P.follows .mixedOrders = true) (hc : chkD ops (E.map De.dd) E.length = true) {L : List (Nat × Nat)} (hL : oblF E.length (oblL (preds ops) (E.map De.dd) 0 (E.map De.dd)) = L) (ho : OblE P nt E hs h L)
    (hg : AGo P V Q k .normal ⟨nt, tmA l, hpL h⟩) : DGo P V nt Q k id ops l0 h0 [] E hs l h :=
  dgoEndG hm E.length hc hL ho (fun T D _ d hd => by
    have hlen : E.length = T.length := by have := D.dd.1; simpa using this
    have := (List.getElem?_eq_some_iff.1 hd).1; omega) hg

def noRefH (N : Nat) : Hl → Bool
  | [] => true
  | some b :: h => !(b.refs.contains N) && noRefH N h
  | none :: h => noRefH N h
theorem noRefH_ok {N : Nat} : ∀ {h : Hl}, noRefH N h = true → ∀ id c, hpL h id = some c → N ∉ c.refs
  | [], _, id, c, e => by simp [hpL] at e
  | x :: h, hn, id, c, e => by
    have hr : noRefH N h = true := by cases x <;> simp [noRefH] at hn <;> first | exact hn | exact hn.2
    cases id with
    | zero =>
      simp [hpL] at e; subst e
      simp [noRefH] at hn; exact hn.1
    | succ id => exact noRefH_ok hr id c (by simpa [hpL] using e)
def freeE (N : Nat) (e : De) : Bool := e.lo.all (fun p => !(p.2.refs.contains N)) && !(e.v.refs.contains N)
def freeH (N : Nat) (h : Hl) : Bool := Nat.ble h.length N && noRefH N h
theorem tmA_free {N : Nat} {l : Tm} (h : l.all (fun p => !(p.2.refs.contains N)) = true) (t : Nat) : N ∉ (tmA l t).refs := by
  induction l with
  | nil => simp [tmA, AV.refs]
  | cons p l ih =>
    simp only [List.all_cons, Bool.and_eq_true] at h
    simp only [tmA]
    split
    · simpa using h.1
    · exact ih h.2
theorem writes_set {ws : List (Nat × Blk)} {hp : Hp} {p : Nat × Blk} (h : p ∈ ws) : writes hp ws p.1 ≠ none := by
  have keep : ∀ (ws : List (Nat × Blk)) (hp : Hp) (j : Nat), hp j ≠ none → writes hp ws j ≠ none := by
    intro ws
    induction ws with
    | nil => intro hp j h; exact h
    | cons q ws ih =>
      intro hp j h
      refine ih (upd hp q.1 (some q.2)) j ?_
      by_cases e : j = q.1
      · rw [e, upd_same]; simp
      · rw [upd_ne _ _ e]; exact h
  induction ws generalizing hp with
  | nil => simp at h
  | cons q ws ih =>
    rcases List.mem_cons.1 h with rfl | h
    · exact keep ws (upd hp p.1 (some p.2)) p.1 (by rw [upd_same]; simp)
    · exact ih (hp := upd hp q.1 (some q.2)) h
/-- The end of such a region in which one variable is made at any time. -/
theorem dgoEndF (hm : P.follows .mixedOrders = true) (f0 : Nat) (hc : chkD ops (E.map De.dd) f0 = true) {L : List (Nat × Nat)} (hL : oblF f0 (oblL (preds ops) (E.map De.dd) 0 (E.map De.dd)) = L) (ho : OblE P nt E hs h L)
    {e0 : De} {N : Nat} {t : TypeId} {cells : List AV} (he : E[f0]? = some e0) (hfw : e0.fw = some (N, .box cells)) (hop : e0.o.op = .alloc t) (hz : zrOf F t = some cells) (hv : e0.v = .ptr N 0)
    (hfE : (E.take f0).all (freeE N) = true) (hfH : (hs.take (f0 + 1)).all (freeH N) = true) (hN0 : Nat.ble h0.length N = true)
    (hg : AGo P V Q k .normal ⟨nt, tmA l, hpL h⟩) : DGo P V nt Q k id ops l0 h0 [] E hs l h := by
  have hFe := hF.eq
  subst hFe
  refine dgoEndG hm f0 hc hL ho (fun T D hE d hd => ?_) hg
  have hlen : E.length = T.length := by have := D.dd.1; simpa using this
  have hf0 := (List.getElem?_eq_some_iff.1 hd).1
  obtain ⟨e1, e2, e3, e4, e5⟩ := hE f0 d e0 hd he
  have hws := e5 _ hfw
  have beyond : ∀ h' : Hl, Nat.ble h'.length N = true → hpL h' N = none := fun h' hl => by
    have := Nat.le_of_ble_eq_true hl
    simp [hpL, List.getD_eq_getElem?_getD, List.getElem?_eq_none this]
  have hsl := D.hsl
  have heap : ∀ b, b ≤ f0 → ∃ hb, hs[b]? = some hb ∧ freeH N hb = true ∧ hpS T 0 (fun j => decide (j < b)) (hpL h0) = hpL hb := fun b hb => by
    obtain ⟨hb', h1⟩ : ∃ hb', hs[b]? = some hb' := ⟨_, List.getElem?_eq_getElem (by omega)⟩
    refine ⟨hb', h1, List.all_eq_true.1 hfH hb' (List.mem_of_getElem? (i := b) (by rw [List.getElem?_take, if_pos (by omega)]; exact h1)), D.hs b hb' h1⟩
  refine ⟨N, .box cells, hws, beyond h0 hN0, fun H hH _ => ?_, fun i di hi hdi => ?_, fun b hb id c hcc => ?_⟩
  · rw [e1, hws, e4, hv]
    exact ok_alloc hop hz hH
  · have hil := (List.getElem?_eq_some_iff.1 hdi).1
    obtain ⟨e, hei⟩ : ∃ e, E[i]? = some e := ⟨_, List.getElem?_eq_getElem (by omega)⟩
    obtain ⟨k1, k2, k3, k4, _⟩ := hE i di e hdi hei
    have hfe := List.all_eq_true.1 hfE e (List.mem_of_getElem? (i := i) (by rw [List.getElem?_take, if_pos hi]; exact hei))
    simp only [freeE, Bool.and_eq_true] at hfe
    refine ⟨fun p hp hpN => ?_, fun t => by rw [k2]; exact tmA_free hfe.1 t, by rw [k4]; simpa using hfe.2⟩
    obtain ⟨hb, _, g2, g3⟩ := heap (i + 1) (by omega)
    simp only [freeH, Bool.and_eq_true] at g2
    have hnone := beyond hb g2.1
    rw [← g3] at hnone
    have hi1 : hpS T 0 (fun j => decide (j < i + 1)) (hpL h0) = writes (hpS T 0 (fun j => decide (j < i)) (hpL h0)) di.ws := hpS_set T 0 i di _ _ (hpL h0) hdi (by simp) (by simp) (fun j hj => by
        rw [Nat.zero_add] at hj
        by_cases h : j < i
        · simp [h]; omega
        · have : ¬ j < i + 1 := by omega
          simp [h, this]) fun j dj hij hj hs' => by
          rw [Nat.zero_add] at hs'; simp at hs'; omega
    rw [hi1, ← hpN] at hnone
    exact writes_set hp hnone
  · obtain ⟨hb', _, g2, g3⟩ := heap b hb
    rw [g3] at hcc
    simp only [freeH, Bool.and_eq_true] at g2
    exact noRefH_ok g2.2 id c hcc

def oblA (F : Ty) (nt : Nat) (E : List De) (hs : List Hl) (L : List (Nat × Nat)) : List (Option (AV × Hl) × Bool × Bool) :=
  L.map fun p => match E[p.1]? with
    | some e => (match e.run with
      | true => (evQ F ⟨nt, tmA e.lo, hpL (hs.getD p.2 [])⟩ (hs.getD p.2 []) e.o, loudOp e.o, e.loud)
      | false => (none, false, false))
    | none => (none, true, true)
def oblB (E : List De) (hs : List Hl) (L : List (Nat × Nat)) : List (Option (AV × Hl) × Bool × Bool) :=
  L.map fun p => match E[p.1]? with
    | some e => (match e.run with
      | true => (some (e.v, hs.getD p.2 []), false, false)
      | false => (none, false, false))
    | none => (none, false, false)
theorem oblE_of {L : List (Nat × Nat)} (hq : oblA F nt E (hs ++ [h]) L = oblB E (hs ++ [h]) L) : OblE P nt E hs h L := by
  have hFe := hF.eq
  subst hFe
  induction L with
  | nil => trivial
  | cons p r ih =>
    simp only [oblA, oblB, List.map_cons, List.cons.injEq] at hq
    obtain ⟨h1, h2⟩ := hq
    refine ⟨?_, ih h2⟩
    cases he : E[p.1]? with
    | none => rw [he] at h1; simp at h1
    | some e =>
      rw [he] at h1
      intro hr
      simp only [hr, Prod.mk.injEq] at h1
      obtain ⟨h3, h4, h5⟩ := h1
      refine ⟨h5, ?_⟩
      rw [nthK_eq]
      obtain ⟨ws, k1, _, k3⟩ := evQ_ok rfl h3
      rw [h4] at k3
      have : ws = [] := by simpa using k3.symm
      subst this; exact k1
theorem dgoEndQ (hm : P.follows .mixedOrders = true) (L : List (Nat × Nat)) (hc : chkD ops (E.map De.dd) E.length = true) (hL : oblF E.length (oblL (preds ops) (E.map De.dd) 0 (E.map De.dd)) = L) (hq : oblA F nt E (hs ++ [h]) L = oblB E (hs ++ [h]) L)
    (hg : AGo P V Q k .normal ⟨nt, tmA l, hpL h⟩) : DGo P V nt Q k id ops l0 h0 [] E hs l h := dgoEnd hm hc hL (oblE_of (F := F) hq) hg
/-- What is asked of the variable that is made at any time. -/
def freeOk (F : Ty) (E : List De) (hs : List Hl) (h0 : Hl) (f0 : Nat) : Bool := match E[f0]? with
  | some e0 => (match e0.fw with
    | some (N, _) => (E.take f0).all (freeE N) && (hs.take (f0 + 1)).all (freeH N) && Nat.ble h0.length N
    | none => false)
  | none => false
def freeA (F : Ty) (E : List De) (f0 : Nat) : Option (AV × Blk × Option TypeId) := match E[f0]? with
  | some e0 => (match e0.fw with
    | some (_, b) => some (e0.v, b, match e0.o.op with | .alloc t => some t | _ => none)
    | none => none)
  | none => none
def freeB (F : Ty) (E : List De) (f0 : Nat) : Option (AV × Blk × Option TypeId) := match E[f0]? with
  | some e0 => (match e0.fw with
    | some (N, _) => (match e0.o.op with
      | .alloc t => (match zrOf F t with
        | some cells => some (.ptr N 0, .box cells, some t)
        | none => none)
      | _ => none)
    | none => none)
  | none => none
theorem dgoEndFQ (hm : P.follows .mixedOrders = true) (f0 : Nat) (L : List (Nat × Nat)) (hc : chkD ops (E.map De.dd) f0 = true) (hL : oblF f0 (oblL (preds ops) (E.map De.dd) 0 (E.map De.dd)) = L) (hq : oblA F nt E (hs ++ [h]) L = oblB E (hs ++ [h]) L)
    (hfo : freeOk F E hs h0 f0 = true) (hfa : freeA F E f0 = freeB F E f0) (hg : AGo P V Q k .normal ⟨nt, tmA l, hpL h⟩) : DGo P V nt Q k id ops l0 h0 [] E hs l h := by
  unfold freeOk at hfo
  cases he : E[f0]? with
  | none => rw [he] at hfo; simp at hfo
  | some e0 =>
    rw [he] at hfo
    simp only at hfo
    cases hw : e0.fw with
    | none => rw [hw] at hfo; simp at hfo
    | some p =>
      obtain ⟨N, b⟩ := p
      rw [hw] at hfo
      simp only [Bool.and_eq_true] at hfo
      obtain ⟨⟨h1, h2⟩, h3⟩ := hfo
      simp only [freeA, freeB, he, hw] at hfa
      split at hfa
      · rename_i t ht
        split at hfa
        · rename_i cells hz
          simp only [Option.some.injEq, Prod.mk.injEq] at hfa
          obtain ⟨k1, k2, _⟩ := hfa
          exact dgoEndF (F := F) hm f0 hc hL (oblE_of (F := F) hq) he (by rw [hw, k2]) ht hz k1 h1 h2 h3 hg
        · simp at hfa
      · simp at hfa
/-- A variable is made. -/
theorem dgoAlloc {lo : Tm} {d : Tmp} {t : TypeId} {cells : List AV} {N : Nat} (hop : o.op = .alloc t) (hlo : onlyK l (opTs ops o) some = some lo) (hd : o.dst = some d) (hw : wantedA ⟨ops⟩ o ⟨nt, tmA lo, hpL h⟩ = some true)
    (hz : zrOf F t = some cells) (hN : freshK h ids none some = some N) (hh : appK h (some (.box cells)) some = some h')
    (hg : DGo P V nt Q k id ops l0 h0 rest (E ++ [⟨o, lo, true, .ptr N 0, true, some (N, .box cells)⟩]) (hs ++ [h]) ((d, .ptr N 0) :: l) h') : DGo P V nt Q k id ops l0 h0 (o :: rest) E hs l h := by
  have hFe := hF.eq
  subst hFe
  rw [onlyK_eq] at hlo
  obtain rfl := Option.some.inj hlo
  have hN' : N = h.length := by
    rw [ids_eq] at hN
    by_cases hl : h.length < 60
    · rw [freshK_eq h 60 0 _ _ hl] at hN; simp at hN; exact hN.symm
    · rw [freshK_none h 60 0 _ _ (by omega)] at hN; simp at hN
  subst hN'
  rw [appK_eq] at hh
  obtain rfl := Option.some.inj hh
  refine dgoAdd (ws := [(h.length, .box cells)]) rfl (fun p hp => by obtain ⟨t, _, rfl⟩ := List.mem_map.1 hp; rfl) hw (fun h => by simp at h) (fun _ => ok_alloc hop hz (hpL_fresh h)) (by simp [putL, hd]) rfl (fun p hp => by simp at hp; rw [hp]) (hpL_new ..) hg

theorem oblQ {σ : St} {v : AV} (hh : σ.hp = hpL h) (hl : loudOp o = false) (he : evQ F σ h o = some (v, h')) : OpOk P o σ ⟨v, []⟩ := by
  have hF := hF.eq
  subst hF
  obtain ⟨ws, k1, _, k3⟩ := evQ_ok hh he
  rw [hl] at k3
  have : ws = [] := by simpa using k3.symm
  subst this; exact k1

/-- A call inside such a region. -/
theorem dgoCall {lo : Tm} {d : Tmp} {fo : Operand} {args : Array Operand} {ats : Array TypeId} {g : FuncId} {caps pargs : List AV} {res v : AV} {b : Bool} (sn : List Nat)
    (hlo : onlyK l (opTs ops o) some = some lo) (hd : o.dst = some d) (hw : wantedA ⟨ops⟩ o ⟨nt, tmA lo, hpL h⟩ = some true) (hop : o.op = .call { callee := .value fo, args := args, argTypes := ats }) (hf : (St.mk nt (tmA lo) (hpL h)).ev fo = .fn g caps)
    (hc : ACall P 0 g pargs (hpL []) res (hpL [])) (ha : argsOk (hpL h) (hpL []) (fun i => i) sn (args.toList.map (St.mk nt (tmA lo) (hpL h)).ev ++ caps) pargs)
    (hst : sn = [] ∨ res.flat = true) (hr : res.refs = []) (hi : impK h res = some (v, h')) (hb : (!(newsT res).isEmpty) = b)
    (hg : DGo P V nt Q k id ops l0 h0 rest (E ++ [⟨o, lo, true, v, b, none⟩]) (hs ++ [h]) ((d, v) :: l) h') : DGo P V nt Q k id ops l0 h0 (o :: rest) E hs l h := by
  rw [onlyK_eq] at hlo
  obtain rfl := Option.some.inj hlo
  obtain ⟨rfl, rfl⟩ := impK_some hi
  have hok := ok_call (N := h.length) hop hf hc ha ⟨fun k hk => absurd hk (by omega), fun k _ => rfl, fun i j hi => absurd hi (by omega), fun id _ k hk => absurd hk (by omega)⟩
    (fun i _ => by simp [hpL]) (hst.imp_right fun h => ⟨h, fun k hk => absurd hk (by omega)⟩) (by simp [hr]) (fun k hk => absurd hk (by omega))
  refine dgoAdd rfl (fun p hp => by obtain ⟨t, _, rfl⟩ := List.mem_map.1 hp; rfl) hw (fun h => by simp at h) (fun _ => hok) (by simp [putL, hd]) ?_ (by simp) ?_ hg
  · simp only [backs, List.range_zero, List.map_nil, List.nil_append, newWs]
    rw [← hb]
    cases newsT res <;> simp
  · simp only [backs, List.range_zero, List.map_nil, List.nil_append, newWs]
    exact writes_new _ h

/-- Any operation inside such a region, told by hand. -/
theorem dgoOp {lo : Tm} {d : Tmp} {v : AV} {ws : List (Nat × Blk)} {b : Bool} (hlo : onlyK l (opTs ops o) some = some lo) (hd : o.dst = some d) (hw : wantedA ⟨ops⟩ o ⟨nt, tmA lo, hpL h⟩ = some true)
    (hok : OpOk P o ⟨nt, tmA lo, hpL h⟩ ⟨v, ws⟩) (hb : (!ws.isEmpty) = b) (hh : writes (hpL h) ws = hpL h') (hg : DGo P V nt Q k id ops l0 h0 rest (E ++ [⟨o, lo, true, v, b, none⟩]) (hs ++ [h]) ((d, v) :: l) h') :
    DGo P V nt Q k id ops l0 h0 (o :: rest) E hs l h := by
  rw [onlyK_eq] at hlo
  obtain rfl := Option.some.inj hlo
  exact dgoAdd rfl (fun p hp => by obtain ⟨t, _, rfl⟩ := List.mem_map.1 hp; rfl) hw (fun h => by simp at h) (fun _ => hok) (by simp [putL, hd]) hb.symm (by simp) hh hg

theorem dgoAt {lo : Tm} {d : Tmp} {t et : TypeId} {x i : Operand} {m : Md} {xs : List (List D)} {kk : IntKind} {n : Int} {cs : List D}
    (hlo : onlyK l (opTs ops o) some = some lo) (hd : o.dst = some d) (hw : wantedA ⟨ops⟩ o ⟨nt, tmA lo, hpL h⟩ = some true) (ho : o.op = .indexAddr t x i) (hx : (St.mk nt (tmA lo) (hpL h)).ev x = .sl m xs) (hi : (St.mk nt (tmA lo) (hpL h)).ev i = .int kk n)
    (hl : live (hpL h) m = true) (h0' : 0 ≤ n) (hc : xs[n.toNat]? = some cs) (he : elOf F t = some et) (hs' : szOf F et = some cs.length) (hp : 0 < cs.length)
    (hg : DGo P V nt Q k id ops l0 h0 rest (E ++ [⟨o, lo, true, .iptr m cs, false, none⟩]) (hs ++ [h]) ((d, .iptr m cs) :: l) h) : DGo P V nt Q k id ops l0 h0 (o :: rest) E hs l h := by
  have e := hF.eq
  subst e
  refine dgoOp hlo hd hw (ok_indexAddr (v := .iptr m cs) ho ?_) rfl rfl hg
  simp only [hx, hi, evIndexAddr, h0', hl, hc, he, hs', hp, if_true, Option.bind_some, and_self]
end

end Go.Al
