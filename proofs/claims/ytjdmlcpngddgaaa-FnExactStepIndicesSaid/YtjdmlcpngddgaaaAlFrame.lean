/- The abstract logic, part 13b: an operation does not look at a block that it does not name. -/
import Derived.Test.YtjdmlcpngddgaaaAlStore
set_option linter.unusedVariables false
set_option linter.unusedSimpArgs false
namespace Go.Al
open Go Go.RowKit

theorem writes_notin {ws : List (Nat × Blk)} {hp : Hp} {j : Nat} (h : ∀ p ∈ ws, p.1 ≠ j) : writes hp ws j = hp j :=
  writes_not fun hm => by
    obtain ⟨p, hp, e⟩ := List.mem_map.1 hm
    exact h p hp e
theorem writes_upd {ws : List (Nat × Blk)} {hp : Hp} {N : Nat} {b : Blk} (h : ∀ p ∈ ws, p.1 ≠ N) : writes (upd hp N (some b)) ws = upd (writes hp ws) N (some b) := by
  induction ws generalizing hp with
  | nil => rfl
  | cons p ws ih =>
    have h1 := h p (by simp)
    have e : upd (upd hp N (some b)) p.1 (some p.2) = upd (upd hp p.1 (some p.2)) N (some b) := by
      funext j
      simp only [upd]
      by_cases hj : j = p.1
      · subst hj; simp [h1]
      · simp [hj]
    show writes (upd (upd hp N (some b)) p.1 (some p.2)) ws = upd (writes (upd hp p.1 (some p.2)) ws) N (some b)
    rw [e, ih fun q hq => h q (by simp [hq])]

theorem OpOk.frame {P : Program} {o : Oper} {nt : Nat} {tm : Nat → AV} {H : Hp} {out : Out} {N : Nat} {blk : Blk} (h : OpOk P o ⟨nt, tm, H⟩ out) (hN : H N = none) (hws : ∀ p ∈ out.ws, p.1 ≠ N)
    (hb : ∀ id b, H id = some b → N ∉ b.refs) (hb' : ∀ id b, writes H out.ws id = some b → N ∉ b.refs) (ht : ∀ t, N ∉ (tm t).refs) (hv : N ∉ out.v.refs) : OpOk P o ⟨nt, tm, upd H N (some blk)⟩ out := by
  intro C a w hc
  have HC := hc.heap
  simp only at HC
  have hpN : upd H N (some blk) N = some blk := upd_same ..
  have al : ∀ id, H id ≠ none → upd H N (some blk) id ≠ none ∧ id ≠ N := fun id hid => by
    have : id ≠ N := fun e => hid (by rw [e]; exact hN)
    exact ⟨by rw [upd_ne _ _ this]; exact hid, this⟩
  have hNne : upd H N (some blk) N ≠ none := by rw [hpN]; simp
  let C0 : Co := ⟨C.cb, fun b => C.U b ∧ b ∉ (C N).S⟩
  have hC0 : ∀ id, C0 id = C id := fun _ => rfl
  have Blt := HC.lt hNne
  have sub : Sub w (upd H N (some blk)) C H C0 := ⟨fun b hs => ⟨hs.1, ⟨hs.2.1, hs.2.2 N hNne⟩, fun id hid => hs.2.2 id (al id hid).1⟩⟩
  have H0 : HConc w H C0 := by
    refine ⟨fun b hup => ⟨HC.up b hup, fun hB => by have := Blt b hB; omega⟩, fun id hid b hb => ⟨HC.inU id (al id hid).1 b hb, fun hB => HC.apart id N (al id hid).2 (al id hid).1 hNne b hb hB⟩, fun id b hid => ?_, fun id hid => HC.nodup id (al id hid).1, fun i j hij hi hj => HC.apart i j hij (al i hi).1 (al j hj).1⟩
    have hne := (al id (by rw [hid]; simp)).2
    refine BRep.sub sub (HC.rep id b (by rw [upd_ne _ _ hne]; exact hid)) rfl fun i hi => ⟨?_, rfl⟩
    have : i ≠ N := fun e => hb id b hid (by rw [← e]; exact hi)
    rw [upd_ne _ _ this]
  have hc0 : Conc ⟨nt, tm, H⟩ C0 a w := ⟨hc.defers, hc.size, fun t v hv => VRep.sub sub (fun i hi => ⟨by
    have : i ≠ N := fun e => ht t (by rw [← e]; exact hi)
    rw [upd_ne _ _ this], rfl⟩) (hc.tmps t v hv), H0⟩
  refine Oper.wp_mono (fun a' w' hpost => ?_) (h C0 a w hc0)
  obtain ⟨C', k1, k2, k3⟩ := hpost
  simp only at k2 k3
  have hBkeep : ∀ b ∈ (C N).S, w'.heap[b]? = w.heap[b]? := fun b hB => k3.block b (Blt b hB) fun ⟨id, hid, hbs⟩ => HC.apart id N (al id hid).2 (al id hid).1 hNne b hbs hB
  have hw : writes (upd H N (some blk)) out.ws = upd (writes H out.ws) N (some blk) := writes_upd hws
  have hHN : writes H out.ws N = none := by rw [writes_notin hws]; exact hN
  let C2 : Co := ⟨upd C'.cb N (C N), C.U⟩
  have C2N : C2 N = C N := upd_same ..
  have C2o : ∀ id, id ≠ N → C2 id = C' id := fun id hid => upd_ne _ _ hid
  have U' : ∀ b, C'.U b ↔ (C.U b ∧ b ∉ (C N).S) := fun b => by rw [k3.U]
  have H1 := k1.heap
  simp only [St.app_hp] at H1
  have al' : ∀ id, writes H out.ws id ≠ none → id ≠ N := fun id hid e => hid (by rw [e]; exact hHN)
  have HN' : ∀ id, id ≠ N → upd (writes H out.ws) N (some blk) id = writes H out.ws id := fun id hid => upd_ne _ _ hid
  have sub' : Sub w' (writes H out.ws) C' (upd (writes H out.ws) N (some blk)) C2 := ⟨fun b hs => ⟨hs.1, ((U' b).1 hs.2.1).1, fun id hid => by
    by_cases hidN : id = N
    · subst hidN; rw [C2N]; exact ((U' b).1 hs.2.1).2
    · rw [C2o id hidN]; rw [HN' id hidN] at hid; exact hs.2.2 id hid⟩⟩
  have E : Ev w (upd H N (some blk)) C w' (upd (writes H out.ws) N (some blk)) C2 := by
    refine ⟨rfl, fun b hbs => ?_, fun id b hid => ?_⟩
    · obtain ⟨e1, e2⟩ := k2.stab b (sub.stab b hbs)
      exact ⟨e1, sub'.stab b e2⟩
    · by_cases hidN : id = N
      · subst hidN
        rw [hpN] at hid
        obtain rfl := Option.some.inj hid
        refine ⟨blk, upd_same .., ?_⟩
        rw [C2N]
        cases blk with
        | dead => simp [IdEv]
        | held => simp [IdEv]
        | box cells => simp [IdEv]
        | row x ver e xs => exact ⟨rfl, Nat.le_refl _, fun _ => rfl, Nat.le_refl _, fun _ b hbs => ⟨hbs, hBkeep b hbs⟩⟩
      · rw [upd_ne _ _ hidN] at hid
        obtain ⟨b', e1, e2⟩ := k2.ids id b hid
        exact ⟨b', by rw [HN' id hidN]; exact e1, by rw [C2o id hidN]; exact e2⟩
  have F : Fr w (upd H N (some blk)) C w' (upd (writes H out.ws) N (some blk)) C2 := by
    refine ⟨rfl, k3.os, k3.tape, k3.output, k3.size, fun b hlt ho => k3.block b hlt fun ⟨id, hid, hbs⟩ => ho ⟨id, (al id hid).1, hbs⟩, fun b ⟨id, hid, hbs⟩ => ?_, k3.frz⟩
    by_cases hidN : id = N
    · subst hidN; rw [C2N] at hbs; exact .inl ⟨id, hNne, hbs⟩
    · rw [C2o id hidN] at hbs
      rw [HN' id hidN] at hid
      rcases k3.own b ⟨id, hid, hbs⟩ with ⟨i, hi, hbi⟩ | h
      · exact .inl ⟨i, (al i hi).1, hbi⟩
      · exact .inr h
  have HC2 : HConc w' (upd (writes H out.ws) N (some blk)) C2 := by
    refine ⟨fun b hup => ((U' b).1 (H1.up b hup)).1, fun id hid b hbs => ?_, fun id b hid => ?_, fun id hid => ?_, fun i j hij hi hj b hbi => ?_⟩
    · by_cases hidN : id = N
      · subst hidN; rw [C2N] at hbs; exact HC.inU id hNne b hbs
      · rw [C2o id hidN] at hbs; rw [HN' id hidN] at hid
        exact ((U' b).1 (H1.inU id hid b hbs)).1
    · by_cases hidN : id = N
      · subst hidN
        rw [upd_same] at hid
        obtain rfl := Option.some.inj hid
        exact BRep.kept k3.size E (HC.rep id blk hpN) C2N hBkeep
      · rw [HN' id hidN] at hid
        refine BRep.sub sub' (H1.rep id b hid) (C2o id hidN) fun i hi => ?_
        have hiN : i ≠ N := fun e => hb' id b hid (by rw [← e]; exact hi)
        exact ⟨HN' i hiN, C2o i hiN⟩
    · by_cases hidN : id = N
      · subst hidN; rw [C2N]; exact HC.nodup id hNne
      · rw [C2o id hidN]; rw [HN' id hidN] at hid; exact H1.nodup id hid
    · by_cases hiN : i = N
      · subst hiN
        rw [C2N] at hbi
        have hjN : j ≠ i := fun e => hij e.symm
        rw [C2o j hjN]; rw [HN' j hjN] at hj
        intro hbj
        exact ((U' b).1 (H1.inU j hj b hbj)).2 hbi
      · rw [C2o i hiN] at hbi
        rw [HN' i hiN] at hi
        by_cases hjN : j = N
        · subst hjN; rw [C2N]; exact ((U' b).1 (H1.inU i hi b hbi)).2
        · rw [C2o j hjN]; rw [HN' j hjN] at hj
          exact H1.apart i j hij hi hj b hbi
  refine ⟨C2, ⟨k1.defers, by simpa using k1.size, fun t v hv' => ?_, by simpa only [St.app_hp, hw] using HC2⟩, by rw [hw]; exact E, by rw [hw]; exact F⟩
  have := k1.tmps t v hv'
  simp only [St.app, hw] at this ⊢
  refine VRep.sub sub' (fun i hi => ?_) (by cases hd : o.dst <;> simpa [St.put, hd] using this)
  have hiN : i ≠ N := by
    intro e
    cases hd : o.dst with
    | none => simp [St.put, hd] at hi; exact ht t (by rw [← e]; exact hi)
    | some d =>
      simp only [St.put, hd] at hi
      by_cases htd : t = d
      · subst htd; simp at hi; exact hv (by rw [← e]; exact hi)
      · rw [upd_ne _ _ htd] at hi; exact ht t (by rw [← e]; exact hi)
  exact ⟨HN' i hiN, C2o i hiN⟩
end Go.Al
