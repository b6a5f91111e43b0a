/- Part of a proof over the seat Ytjdmlcpngddgaaa: what the text lends is said at its theorems. -/
import Derived.Test.YtjdmlcpngddgaaaMa10
set_option linter.unusedVariables false
set_option linter.unusedSimpArgs false
set_option maxRecDepth 20000
namespace Go.Proofs.Ma
open Go Go.Al Go.Proofs
open Go.Proofs.Tst (c_l1In c_l1Atom c_isAtom mixed)

def okTo (a b : Mach) (m : Nat) : Bool := (List.range m).all (prodOk a b)
theorem okTo_succ (a b : Mach) (m : Nat) : okTo a b (m + 1) = (okTo a b m && prodOk a b m) := by
  unfold okTo; rw [List.range_succ, List.all_append]; simp
theorem okTo_le {a b : Mach} {m n : Nat} (h : m ≤ n) (hf : okTo a b m = false) : okTo a b n = false := by
  cases h2 : okTo a b n with
  | false => rfl
  | true =>
    have : okTo a b m = true := List.all_eq_true.2 fun t ht => List.all_eq_true.1 h2 t (List.mem_range.2 (by have := List.mem_range.1 ht; omega))
    rw [this] at hf; simp at hf

theorem c_specProductMachine (a b : Mach) (sm : Bool) : ACall Try.prog 0 31 [.agg (a.enc.map (MD .st)), .agg (b.enc.map (MD .st)), .bool sm] (hpL []) (.tup [(prodM a b sm).1.own, .bool (prodM a b sm).2]) (hpL []) := by
  obtain ⟨sa, ra, aa, ma⟩ := a
  obtain ⟨sb, rb, ab, mb⟩ := b
  obtain ⟨a, hA⟩ : ∃ a : Mach, a = ⟨sa, ra, aa, ma⟩ := ⟨_, rfl⟩
  obtain ⟨b, hB⟩ : ∃ b : Mach, b = ⟨sb, rb, ab, mb⟩ := ⟨_, rfl⟩
  have cia := c_specIsMachine ⟨sa, ra, aa, ma⟩
  have cib := c_specIsMachine ⟨sb, rb, ab, mb⟩
  rw [← hA, ← hB]
  have bad : prodPre a b = false ∨ prodAll a b = false → prodM a b sm = (zMach, false) := fun h => by
    unfold prodM
    rcases h with h | h <;> simp [h]
  have eaE : a.enc = [.int .i64 sa, .int .i64 ra, .sl (aa.map encB), .sl (ma.map Mov.enc)] := by rw [hA]; rfl
  have ebE : b.enc = [.int .i64 sb, .int .i64 rb, .sl (ab.map encB), .sl (mb.map Mov.enc)] := by rw [hB]; rfl
  rw [eaE, ebE]
  generalize hga : isM ⟨sa, ra, aa, ma⟩ = ga at cia
  generalize hgb : isM ⟨sb, rb, ab, mb⟩ = gb at cib
  rw [← hA] at hga
  rw [← hB] at hgb
  have hpre : prodPre a b = (ga && gb && decide (sa * sb ≤ 9 ∧ ra + rb ≤ 3)) := by unfold prodPre; rw [hga, hgb, show a.s = sa by rw [hA], show a.r = ra by rw [hA], show b.s = sb by rw [hB], show b.r = rb by rw [hB]]
  refine acall_go (fn := Try.f31) (by kernel_rfl) (by kernel_rfl) (by rfl) (Nat.le_of_ble_eq_true rfl) ?_
  show AGo _ _ _ _ _ ⟨156, _, _⟩
  repeat refine go1 (F := F) rfl ?_
  refine goCut (X := {g : Bool // g = prodPre a b}) 1 (fun g => [(2, .bool sm), (3, .ptr 0 0), (4, .ptr 1 0), (6, .ptr 2 0), (7, .bool false), (8, .bool g.1)]) (fun _ => [some (.box [.int .i64 sa, .int .i64 ra, .sl .st (aa.map encB), .sl .st (ma.map Mov.enc)]), some (.box [.int .i64 sb, .int .i64 rb, .sl .st (ab.map encB), .sl .st (mb.map Mov.enc)]), some (.box [.int .i64 0, .int .i64 0, .nil, .nil])]) rfl ?_ ?_
  · refine goCall [] rfl rfl rfl rfl (cia) (by repeat' first | exact ⟨by simp, _, _, _, _, rfl, (by first | rfl | (simp; done)), rfl⟩ | constructor | (simp; done)) (.inl rfl) rfl rfl ?_
    repeat refine go1 (F := F) rfl ?_
    refine goGuard rfl rfl rfl (fun g1 => ?_) (fun g1 => ?_) <;> (try simp at g1) <;> (repeat refine go1 (F := F) rfl ?_)
    · refine goCall [] rfl rfl rfl rfl (cib) (by repeat' first | exact ⟨by simp, _, _, _, _, rfl, (by first | rfl | (simp; done)), rfl⟩ | constructor | (simp; done)) (.inl rfl) rfl rfl ?_
      repeat refine go1 (F := F) rfl ?_
      refine goGuard rfl rfl rfl (fun g2 => ?_) (fun g2 => ?_) <;> (try simp at g2) <;> (repeat refine go1 (F := F) rfl ?_)
      · obtain ⟨a1, a2, a3, a4, _⟩ := isM_ok (x := a) (by rw [hga, g1])
        obtain ⟨b1, b2, b3, b4, _⟩ := isM_ok (x := b) (by rw [hgb, g2])
        rw [show a.s = sa by rw [hA]] at a1 a2
        rw [show a.r = ra by rw [hA]] at a3 a4
        rw [show b.s = sb by rw [hB]] at b1 b2
        rw [show b.r = rb by rw [hB]] at b3 b4
        have hmul : 0 ≤ sa * sb ∧ sa * sb ≤ 81 := ⟨Int.mul_nonneg (by omega) (by omega), by have := Int.mul_le_mul a2 b2 (by omega) (by omega : (0:Int) ≤ 9); omega⟩
        rw [wrap64 (n := sa * sb) (by omega) (by omega)]
        refine goGuard rfl rfl rfl (fun g3 => ?_) (fun g3 => ?_) <;> (try simp at g3) <;> (repeat refine go1 (F := F) rfl ?_)
        · rw [wrap64 (n := ra + rb) (by omega) (by omega)]
          refine goInv ⟨⟨decide (ra + rb ≤ 3), by rw [hpre, g1, g2]; simp [g3]⟩, (Le.weak [] (by repeat' first | constructor | omega | (simp; done) | (simp; omega)) (by repeat' first | constructor | omega | (simp; done) | (simp; omega)) (by simp) (by intro i hi; first | omega | (rcases i with _ | _ | _ | i <;> first | (intro _; rfl) | omega)))⟩
        · refine goInv ⟨⟨false, by rw [hpre, g1, g2]; simp; omega⟩, (Le.weak [] (by repeat' first | constructor | omega | (simp; done) | (simp; omega)) (by repeat' first | constructor | omega | (simp; done) | (simp; omega)) (by simp) (by intro i hi; first | omega | (rcases i with _ | _ | _ | i <;> first | (intro _; rfl) | omega)))⟩
      · refine goInv ⟨⟨false, by rw [hpre, g2]; simp⟩, (Le.weak [] (by repeat' first | constructor | omega | (simp; done) | (simp; omega)) (by repeat' first | constructor | omega | (simp; done) | (simp; omega)) (by simp) (by intro i hi; first | omega | (rcases i with _ | _ | _ | i <;> first | (intro _; rfl) | omega)))⟩
    · refine goInv ⟨⟨false, by rw [hpre, g1]; simp⟩, (Le.weak [] (by repeat' first | constructor | omega | (simp; done) | (simp; omega)) (by repeat' first | constructor | omega | (simp; done) | (simp; omega)) (by simp) (by intro i hi; first | omega | (rcases i with _ | _ | _ | i <;> first | (intro _; rfl) | omega)))⟩
  · rintro ⟨g, hg⟩
    simp only at hg ⊢
    cases g with
    | false =>
      repeat refine go1 (F := F) rfl ?_
      refine goLoop (X := Unit) (fun _ => [(6, .ptr 2 0), (7, .bool false), (8, .bool false)]) (fun _ => [none, none, some (.box [.int .i64 0, .int .i64 0, .nil, .nil])]) (fun _ => 0) (()) (Le.weak [] (by repeat' first | constructor | omega | (simp; done) | (simp; omega)) (by repeat' first | constructor | omega | (simp; done) | (simp; omega)) (by simp) (by intro i hi; first | omega | (rcases i with _ | _ | _ | i <;> first | (intro _; rfl) | omega))) ?_
      rintro ⟨⟩
      repeat refine go1 (F := F) rfl ?_
      rw [bad (.inl hg.symm)]
      refine goFin (F := F) rfl ?_ ?_ ?_
      · simp [expOkT, expOkA, expOks, expOkAs, expOk, hpL, zMach, Mach.own]
      · simp [expET, expEA, expEs, expEAs, expE1, zMach, Mach.own]
      · simp [expGT, expGA, expGs, expGAs, expG1, zMach, Mach.own]
    | true =>
      rw [← hg] at hpre
      simp only [Bool.and_eq_true, decide_eq_true_eq, Bool.true_eq] at hpre
      obtain ⟨⟨g1, g2⟩, g3, g4⟩ := hpre
      rw [g1] at hga
      rw [g2] at hgb
      obtain ⟨a1, a2, a3, a4, a5, a6, a7⟩ := isM_ok hga
      obtain ⟨b1, b2, b3, b4, b5, b6, b7⟩ := isM_ok hgb
      have ka := pA_pow hga
      have kb := pA_pow hgb
      have has : a.s = sa := by rw [hA]
      have har : a.r = ra := by rw [hA]
      have haa : a.acc = aa := by rw [hA]
      have hma : a.mov = ma := by rw [hA]
      have hbs : b.s = sb := by rw [hB]
      have hbr : b.r = rb := by rw [hB]
      have hab : b.acc = ab := by rw [hB]
      have hmb : b.mov = mb := by rw [hB]
      rw [has] at a1 a2 a5 a6
      rw [hbs] at b1 b2 b5 b6
      rw [har] at a3 a4 a6
      rw [hbr] at b3 b4 b6
      rw [haa] at a5 ka
      rw [hab] at b5 kb
      rw [hma] at a6 a7 ka
      rw [hmb] at b6 b7 kb
      have eA : pA a = 2 ^ ra.toNat := by rw [hA]; rfl
      have eB : pA b = 2 ^ rb.toNat := by rw [hB]; rfl
      have hmul : 0 ≤ sa * sb := Int.mul_nonneg (by omega) (by omega)
      have hN9 : aa.length * ab.length ≤ 9 := by
        have : ((aa.length * ab.length : Nat) : Int) ≤ 9 := by rw [Int.natCast_mul, a5, b5]; exact g3
        omega
      have hNe : ((aa.length * ab.length : Nat) : Int) = sa * sb := by rw [Int.natCast_mul, a5, b5]
      have hC : 1 ≤ prodC a b ∧ prodC a b ≤ 64 := by
        unfold prodC
        exact ⟨Nat.mul_pos ka.1 kb.1, Nat.mul_le_mul ka.2.1 kb.2.1⟩
      have hCe : (2 : Int) ^ (ra + rb).toNat = (prodC a b : Nat) := by
        unfold prodC; rw [eA, eB, ← Nat.pow_add, show (ra + rb).toNat = ra.toNat + rb.toNat by omega]; simp
      repeat refine go1 (F := F) rfl ?_
      rw [wrap64 (n := sa * sb) (by omega) (by omega), wrap64 (n := ra + rb) (by omega) (by omega)]
      refine goMatBox 3 2 1 true (Nat.le_of_ble_eq_true rfl) rfl rfl rfl rfl rfl ?_
      refine goMatBox 3 3 2 true (Nat.le_of_ble_eq_true rfl) rfl rfl rfl rfl rfl ?_
      let HH : Nat → Nat → Hl := fun k m => [some (.box [.int .i64 sa, .int .i64 ra, .sl .st (aa.map encB), .sl .st (ma.map Mov.enc)]), some (.box [.int .i64 sb, .int .i64 rb, .sl .st (ab.map encB), .sl .st (mb.map Mov.enc)]),
        some (.box [.int .i64 0, .int .i64 0, .nil, .nil]), some (.box [.int .i64 (sa * sb), .int .i64 (ra + rb), .row 4 k, .row 5 m]), some (.row true k 1 ((List.range k).map fun s => encB (prodAcc a b sm s))), some (.row true m 2 ((List.range m).map fun t => (prodMv a b t).enc))]
      refine goLoop (X := {p : Nat × Bool // p.1 ≤ aa.length * ab.length ∧ p.2 = okTo a b (p.1 * prodC a b)}) (fun p => [(2, .bool sm), (3, .ptr 0 0), (4, .ptr 1 0), (6, .ptr 2 0), (7, .bool false), (8, .bool p.1.2), (9, .ptr 3 0), (10, .int .i64 p.1.1)]) (fun p => HH p.1.1 (p.1.1 * prodC a b)) (fun p => aa.length * ab.length - p.1.1) (⟨(0, true), by simp [okTo]⟩) (Le.weak [] (by repeat' first | constructor | omega | (simp; done) | (simp; omega)) (by repeat' first | constructor | omega | (simp; done) | (simp; omega)) (by simp) (by intro i hi; first | omega | (rcases i with _ | _ | _ | i <;> first | (intro _; rfl) | omega))) ?_
      rintro ⟨⟨s, g⟩, hs, hgs⟩
      simp only at hs hgs ⊢
      repeat refine go1 (F := F) rfl ?_
      have fin : ∀ m, m ≤ aa.length * ab.length * prodC a b → okTo a b m = false → prodM a b sm = (zMach, false) := fun m hm hf => bad (.inr (by
        have := okTo_le hm hf
        unfold prodAll; rw [haa, hab]; exact this))
      refine goGuard rfl rfl rfl (fun h1 => ?_) (fun h1 => ?_) <;> (try simp at h1) <;> (repeat refine go1 (F := F) rfl ?_)
      · refine goIf rfl (fun h2 => ?_) (fun h2 => ?_) <;> (try simp at h2) <;> (repeat refine go1 (F := F) rfl ?_)
        · subst h1
          have hlb : 0 < ab.length := by omega
          have hsN : s < aa.length * ab.length := by omega
          have hp : s / ab.length < aa.length := Nat.div_lt_of_lt_mul (by rw [Nat.mul_comm]; exact hsN)
          have hq : s % ab.length < ab.length := Nat.mod_lt _ hlb
          have hN : s + 1 ≤ aa.length * ab.length := hsN
          obtain ⟨p, hpd⟩ : ∃ p, p = s / ab.length := ⟨_, rfl⟩
          obtain ⟨q, hqd⟩ : ∃ q, q = s % ab.length := ⟨_, rfl⟩
          have hquo : (s : Int).tdiv sb = (p : Int) := by rw [← b5, hpd]; exact (Int.ofNat_tdiv ..).symm
          have hrem : (s : Int).tmod sb = (q : Int) := by rw [← b5, hqd]; exact (Int.ofNat_tmod ..).symm
          rw [← hpd] at hp
          rw [← hqd] at hq
          obtain ⟨x, hx⟩ := at_of hp
          obtain ⟨y, hy⟩ := at_of hq
          have hv : prodAcc a b sm s = ((x && y) || (sm && (x || y))) := by
            unfold prodAcc; rw [hab, haa, ← hpd, ← hqd, getD_at hx, getD_at hy]
          refine goEv (F := F) rfl rfl (evQ_bin rfl rfl rfl (ev_quo (by omega))) ?_
          repeat refine go1 (F := F) rfl ?_
          rw [hquo, wrapN (k := p) (by omega)]
          refine goEv (F := F) rfl rfl (evQ_bin rfl rfl rfl (ev_rem (by omega) (by rw [hrem]; exact wrapN (by omega)))) ?_
          repeat refine go1 (F := F) rfl ?_
          rw [hrem]
          refine goCut (X := Unit) 1 (fun _ => [(2, .bool sm), (3, .ptr 0 0), (4, .ptr 1 0), (6, .ptr 2 0), (7, .bool false), (8, .bool true), (9, .ptr 3 0), (10, .int .i64 s), (11, .int .i64 p), (12, .int .i64 q)]) (fun _ => HH (s + 1) (s * prodC a b)) rfl ?_ ?_
          · cases x <;> cases y <;> cases sm
            all_goals
              refine goDraw ?_
              repeat first | refine dgo1 (F := F) rfl ?_ | refine dgoAlloc (F := F) rfl rfl rfl rfl rfl rfl rfl ?_
              repeat first | refine dgo1 (F := F) rfl ?_ | refine dgoAlloc (F := F) rfl rfl rfl rfl rfl rfl rfl ?_ | refine dgoAt (F := F) rfl rfl rfl rfl rfl rfl rfl (by first | exact Int.natCast_nonneg _ | omega) (map_at hx) rfl rfl (Nat.zero_lt_succ _) ?_ | refine dgoAt (F := F) rfl rfl rfl rfl rfl rfl rfl (by first | exact Int.natCast_nonneg _ | omega) (map_at hy) rfl rfl (Nat.zero_lt_succ _) ?_
              refine dgoLoud rfl rfl rfl (build_ok (F := F) true (e := 1) rfl rfl rfl rfl (Nat.zero_lt_succ _) rfl rfl rfl rfl rfl rfl (Nat.le_of_ble_eq_true rfl) rfl) ?_
              repeat first | refine dgo1 (F := F) rfl ?_ | refine dgoAlloc (F := F) rfl rfl rfl rfl rfl rfl rfl ?_
              refine dgoLoud rfl rfl rfl (app_ok (F := F) rfl rfl rfl rfl rfl rfl (Nat.zero_lt_succ _) rfl rfl (by first | rfl | (simp; done) | (simp; omega) | omega) (.rowFlat rfl rfl (by intro cs hcs d hd; simp at hcs; subst hcs; simp at hd; subst hd; rfl)) rfl (by first | omega | (simp; omega) | simp) (Nat.zero_lt_succ _) rfl) ?_
              repeat first | refine dgo1 (F := F) rfl ?_ | refine dgoAlloc (F := F) rfl rfl rfl rfl rfl rfl rfl ?_
              refine dgoEndQ (F := F) mixed [(0, 32), (1, 32)] (by kernel_rfl) (by kernel_rfl) (by kernel_rfl) ?_
              repeat refine go1 (F := F) rfl ?_
              refine goInv ⟨(), Le.weak [] (by repeat' constructor) (by repeat' first | constructor | exact (by rw [← range_snoc, hv]; rfl)) (by simp) (by intro i hi; omega)⟩
          · rintro ⟨⟩
            repeat refine go1 (F := F) rfl ?_
            refine goLoop (X := {n : Nat × Bool // n.1 ≤ prodC a b ∧ n.2 = okTo a b (s * prodC a b + n.1)}) (fun n => [(2, .bool sm), (3, .ptr 0 0), (4, .ptr 1 0), (6, .ptr 2 0), (7, .bool false), (8, .bool n.1.2), (9, .ptr 3 0), (10, .int .i64 s), (11, .int .i64 p), (12, .int .i64 q), (13, .int .i64 n.1.1)]) (fun n => HH (s + 1) (s * prodC a b + n.1.1)) (fun n => prodC a b - n.1.1) (⟨(0, true), by simp; exact hgs.symm⟩) (Le.weak [] (by repeat' first | constructor | omega | (simp; done) | (simp; omega)) (by repeat' first | constructor | omega | (simp; done) | (simp; omega)) (by simp) (by intro i hi; first | omega | (rcases i with _ | _ | _ | i <;> first | (intro _; rfl) | omega))) ?_
            rintro ⟨⟨n, g⟩, hn, hgn⟩
            simp only at hn hgn ⊢
            repeat refine go1 (F := F) rfl ?_
            refine goCall [4, 5] rfl rfl rfl rfl (c_l7CasesG (sa * sb) (ra + rb) _ _ (by omega)) (by repeat' first | exact ⟨by simp, _, _, _, _, rfl, (by first | rfl | (simp; done)), rfl⟩ | constructor | (simp; done)) (.inr rfl) rfl rfl ?_
            repeat refine go1 (F := F) rfl ?_
            rw [hCe]
            refine goIf rfl (fun h3 => ?_) (fun h3 => ?_) <;> (try simp at h3) <;> (repeat refine go1 (F := F) rfl ?_)
            · have hnC : n < prodC a b := by omega
              obtain ⟨d3, d4⟩ := div_at (s := s) (C := prodC a b) (n := n) hnC
              have hix : p * pA a + n % pA a < ma.length := by
                have h1 := Nat.mod_lt n (show 0 < pA a by omega)
                have h2 := Nat.mul_le_mul_right (pA a) (show p + 1 ≤ aa.length by omega)
                rw [Nat.add_mul] at h2; rw [ka.2.2]; omega
              have hdB : n / pA a < pA b := Nat.div_lt_of_lt_mul (by unfold prodC at hnC; exact hnC)
              have hiy : q * pA b + n / pA a < mb.length := by
                have h2 := Nat.mul_le_mul_right (pA b) (show q + 1 ≤ ab.length by omega)
                rw [Nat.add_mul] at h2; rw [kb.2.2]; omega
              obtain ⟨x', hx'⟩ := at_of hix
              obtain ⟨y', hy'⟩ := at_of hiy
              have ex : prodX a b s n = x' := by unfold prodX; rw [hab, hma, ← hpd]; exact getD_at hx'
              have ey : prodY a b s n = y' := by unfold prodY; rw [hab, hmb, ← hqd]; exact getD_at hy'
              have emv : prodMv a b (s * prodC a b + n) = joinM a b x' y' := by unfold prodMv; rw [d3, d4, ex, ey]
              have eok : prodOk a b (s * prodC a b + n) = joinOk x' y' := by unfold prodOk; rw [d3, d4, ex, ey]
              have okx := isM_mov hga (m := x') (by rw [hma]; exact List.mem_of_getElem? hx')
              have oky := isM_mov hgb (m := y') (by rw [hmb]; exact List.mem_of_getElem? hy')
              rw [has, har] at okx
              rw [hbs, hbr] at oky
              have hmm : s * prodC a b + n + 1 ≤ 576 := by
                have h1 := Nat.mul_le_mul hN (Nat.le_refl (prodC a b))
                have h2 := Nat.mul_le_mul hN9 hC.2
                rw [Nat.add_mul] at h1
                omega
              obtain ⟨xt, xs⟩ := x'
              obtain ⟨yt, ys⟩ := y'
              simp only [okMov, Bool.and_eq_true, decide_eq_true_eq] at okx oky
              have cj := c_l7Both ⟨sa, ra, aa, ma⟩ ⟨sb, rb, ab, mb⟩ ⟨xt, xs⟩ ⟨yt, ys⟩ (by simp only; omega) (by simp only; omega) (by simp only; omega) (by simp only; omega) (by simp only; omega)
              have hz0 : joinM ⟨sa, ra, aa, ma⟩ ⟨sb, rb, ab, mb⟩ ⟨xt, xs⟩ ⟨yt, ys⟩ = joinM a b ⟨xt, xs⟩ ⟨yt, ys⟩ := by rw [hA, hB]
              rw [hz0, ← emv, ← eok] at cj
              have hosucc := okTo_succ a b (s * prodC a b + n)
              generalize hok : prodOk a b (s * prodC a b + n) = ok at cj hosucc
              generalize hz : prodMv a b (s * prodC a b + n) = z at cj
              obtain ⟨zt, zs⟩ := z
              have hsa : (2 : Int) ^ ra.toNat = ((pA a : Nat) : Int) := by rw [eA]; simp
              have hsb : (2 : Int) ^ rb.toNat = ((pA b : Nat) : Int) := by rw [eB]; simp
              have hr4 : (n : Int).tmod ((pA a : Nat) : Int) = ((n % pA a : Nat) : Int) := (Int.ofNat_tmod ..).symm
              have hq4 : (n : Int).tdiv ((pA a : Nat) : Int) = ((n / pA a : Nat) : Int) := (Int.ofNat_tdiv ..).symm
              have k1 : q * pA b ≤ 72 := Nat.le_trans (Nat.le_add_right _ _) (Nat.le_trans (Nat.le_of_lt hiy) b7)
              have k2 : n / pA a ≤ 64 := Nat.le_trans (Nat.div_le_self _ _) (Nat.le_trans hn hC.2)
              have k3 : q * pA b + n / pA a ≤ 72 := Nat.le_trans (Nat.le_of_lt hiy) b7
              have k4 : p * pA a ≤ 72 := Nat.le_trans (Nat.le_add_right _ _) (Nat.le_trans (Nat.le_of_lt hix) a7)
              have k5 : p * pA a + n % pA a ≤ 72 := Nat.le_trans (Nat.le_of_lt hix) a7
              have k6 : n % pA a ≤ 8 := Nat.le_trans (Nat.le_of_lt (Nat.mod_lt _ (by omega))) ka.2.1
              have c1 := c_l7CasesG sa ra (aa.map encB) (ma.map Mov.enc) (by omega)
              have c2 := c_l7CasesG sb rb (ab.map encB) (mb.map Mov.enc) (by omega)
              rw [hsa] at c1
              rw [hsb] at c2
              refine goDraw ?_
              repeat first | refine dgo1 (F := F) rfl ?_ | refine dgoAlloc (F := F) rfl rfl rfl rfl rfl rfl rfl ?_
              refine dgoCall [] rfl rfl rfl rfl rfl (c1) (by repeat' first | exact ⟨by simp, _, _, _, _, rfl, (by first | rfl | (simp; done)), rfl⟩ | constructor | (simp; done)) (.inl rfl) rfl rfl rfl ?_
              repeat first | refine dgo1 (F := F) rfl ?_ | refine dgoAlloc (F := F) rfl rfl rfl rfl rfl rfl rfl ?_
              refine dgoCall [] rfl rfl rfl rfl rfl (c1) (by repeat' first | exact ⟨by simp, _, _, _, _, rfl, (by first | rfl | (simp; done)), rfl⟩ | constructor | (simp; done)) (.inl rfl) rfl rfl rfl ?_
              repeat first | refine dgo1 (F := F) rfl ?_ | refine dgoAlloc (F := F) rfl rfl rfl rfl rfl rfl rfl ?_
              refine dgoEv (F := F) rfl rfl rfl rfl (evQ_bin rfl rfl rfl (ev_rem (by omega) (by rw [hr4]; exact wrapN (Nat.le_trans k6 (by decide))))) ?_
              repeat first | refine dgo1 (F := F) rfl ?_ | refine dgoAlloc (F := F) rfl rfl rfl rfl rfl rfl rfl ?_
              rw [hr4, ← Int.natCast_mul, wrapN (k := p * pA a) (Nat.le_trans k4 (by decide)), ← Int.natCast_add, wrapN (k := p * pA a + n % pA a) (Nat.le_trans k5 (by decide))]
              refine dgoAt (F := F) rfl rfl rfl rfl rfl rfl rfl (by first | exact Int.natCast_nonneg _ | omega) (map_at hx') rfl rfl (Nat.zero_lt_succ _) ?_
              repeat first | refine dgo1 (F := F) rfl ?_ | refine dgoAlloc (F := F) rfl rfl rfl rfl rfl rfl rfl ?_
              refine dgoEndFQ (F := F) mixed 13 [] (by kernel_rfl) (by kernel_rfl) (by kernel_rfl) (by kernel_rfl) (by kernel_rfl) ?_
              repeat refine go1 (F := F) rfl ?_
              refine goDraw ?_
              repeat first | refine dgo1 (F := F) rfl ?_ | refine dgoAlloc (F := F) rfl rfl rfl rfl rfl rfl rfl ?_
              refine dgoCall [] rfl rfl rfl rfl rfl (c2) (by repeat' first | exact ⟨by simp, _, _, _, _, rfl, (by first | rfl | (simp; done)), rfl⟩ | constructor | (simp; done)) (.inl rfl) rfl rfl rfl ?_
              repeat first | refine dgo1 (F := F) rfl ?_ | refine dgoAlloc (F := F) rfl rfl rfl rfl rfl rfl rfl ?_
              refine dgoCall [] rfl rfl rfl rfl rfl (c1) (by repeat' first | exact ⟨by simp, _, _, _, _, rfl, (by first | rfl | (simp; done)), rfl⟩ | constructor | (simp; done)) (.inl rfl) rfl rfl rfl ?_
              repeat first | refine dgo1 (F := F) rfl ?_ | refine dgoAlloc (F := F) rfl rfl rfl rfl rfl rfl rfl ?_
              refine dgoEv (F := F) rfl rfl rfl rfl (evQ_bin rfl rfl rfl (ev_quo (by omega))) ?_
              repeat first | refine dgo1 (F := F) rfl ?_ | refine dgoAlloc (F := F) rfl rfl rfl rfl rfl rfl rfl ?_
              rw [hq4, wrapN (k := n / pA a) (Nat.le_trans k2 (by decide)), ← Int.natCast_mul, wrapN (k := q * pA b) (Nat.le_trans k1 (by decide)), ← Int.natCast_add, wrapN (k := q * pA b + n / pA a) (Nat.le_trans k3 (by decide))]
              refine dgoAt (F := F) rfl rfl rfl rfl rfl rfl rfl (by first | exact Int.natCast_nonneg _ | omega) (map_at hy') rfl rfl (Nat.zero_lt_succ _) ?_
              repeat first | refine dgo1 (F := F) rfl ?_ | refine dgoAlloc (F := F) rfl rfl rfl rfl rfl rfl rfl ?_
              refine dgoEndFQ (F := F) mixed 13 [] (by kernel_rfl) (by kernel_rfl) (by kernel_rfl) (by kernel_rfl) (by kernel_rfl) ?_
              repeat refine go1 (F := F) rfl ?_
              refine goCall [] rfl rfl rfl rfl (cj) (by repeat' first | exact ⟨by simp, _, _, _, _, rfl, (by first | rfl | (simp; done)), rfl⟩ | constructor | (simp; done)) (.inl rfl) rfl rfl ?_
              repeat refine go1 (F := F) rfl ?_
              refine goBuild (F := F) true (e := 2) rfl rfl rfl rfl rfl rfl (Nat.zero_lt_succ _) rfl rfl rfl rfl rfl rfl (Nat.le_of_ble_eq_true rfl) rfl ?_
              repeat refine go1 (F := F) rfl ?_
              refine goApp (F := F) rfl rfl rfl rfl rfl rfl rfl rfl (Nat.zero_lt_succ _) rfl rfl (by first | rfl | (simp; done) | (simp; omega) | omega) (.rowFlat rfl rfl (by intro cs hcs d hd; simp at hcs; subst hcs; simp at hd; rcases hd with rfl | rfl <;> rfl)) rfl (by first | omega | (simp; omega) | simp) (Nat.zero_lt_succ _) rfl ?_
              repeat refine go1 (F := F) rfl ?_
              have hEQ : (List.range (s * prodC a b + n)).map (fun t => (prodMv a b t).enc) ++ [[.int .i64 zt, .int .i64 zs]] = (List.range (s * prodC a b + (n + 1))).map (fun t => (prodMv a b t).enc) := by
                have h := range_snoc (fun t => (prodMv a b t).enc) (s * prodC a b + n)
                simp only [hz] at h
                exact h
              refine goGuard rfl rfl rfl (fun h9 => ?_) (fun h9 => ?_) <;> (try simp at h9) <;> (repeat refine go1 (F := F) rfl ?_)
              · rw [wrap64 (n := (n : Int) + 1) (by omega) (by omega)]
                refine goInv ⟨⟨(n + 1, ok), by simp only; omega, by simp only; rw [show s * prodC a b + (n + 1) = s * prodC a b + n + 1 from rfl, hosucc, ← hgn, h9]; rfl⟩, (by simp; omega), (Le.weak [] (by repeat' first | constructor | omega | exact hEQ | (simp; done) | (simp; omega)) (by repeat' first | constructor | omega | exact hEQ | (simp; done) | (simp; omega)) (by simp) (by intro i hi; first | omega | (rcases i with _ | _ | _ | i <;> first | (intro _; rfl) | omega)))⟩
              · rw [wrap64 (n := (n : Int) + 1) (by omega) (by omega)]
                refine goInv ⟨⟨(n + 1, false), by simp only; omega, by simp only; rw [show s * prodC a b + (n + 1) = s * prodC a b + n + 1 from rfl, hosucc, ← hgn, h9]; rfl⟩, (by simp; omega), (Le.weak [] (by repeat' first | constructor | omega | exact hEQ | (simp; done) | (simp; omega)) (by repeat' first | constructor | omega | exact hEQ | (simp; done) | (simp; omega)) (by simp) (by intro i hi; first | omega | (rcases i with _ | _ | _ | i <;> first | (intro _; rfl) | omega)))⟩
            · have : n = prodC a b := by omega
              subst this
              rw [show s * prodC a b + prodC a b = (s + 1) * prodC a b from (Nat.succ_mul ..).symm] at hgn ⊢
              rw [wrap64 (n := (s : Int) + 1) (by omega) (by omega)]
              refine goInv ⟨⟨(s + 1, g), by simp only; omega, hgn⟩, (by simp; omega), (Le.weak [] (by repeat' first | constructor | omega | (simp; done) | (simp; omega)) (by repeat' first | constructor | omega | (simp; done) | (simp; omega)) (by simp) (by intro i hi; first | omega | (rcases i with _ | _ | _ | i <;> first | (intro _; rfl) | omega)))⟩
        · have : s = aa.length * ab.length := by omega
          subst this
          cases g with
          | true =>
            repeat refine go1 (F := F) rfl ?_
            have hM : prodM a b sm = (⟨sa * sb, ra + rb, (List.range (aa.length * ab.length)).map (prodAcc a b sm), (List.range (aa.length * ab.length * prodC a b)).map (prodMv a b)⟩, true) := by
              have hall : prodAll a b = true := by unfold prodAll; rw [haa, hab]; exact hgs.symm
              unfold prodM prodRes
              rw [← hg, hall, haa, hab, has, har, hbs, hbr]; rfl
            rw [hM]
            refine goFin (F := F) rfl (by simp [expOkT, expOkA, expOks, expOkAs, expOk, hpL, Mach.own]) (by simp [expET, expEA, expEs, expEAs, expE1, Mach.own]) (by simp [expGT, expGA, expGs, expGAs, expG1, Mach.own])
          | false => simp at h1
      · rw [fin _ (Nat.mul_le_mul_right _ hs) (by rw [← hgs, h1])]
        cases g with
        | true => simp at h1
        | false =>
          repeat refine go1 (F := F) rfl ?_
          refine goFin (F := F) rfl ?_ ?_ ?_
          · simp [expOkT, expOkA, expOks, expOkAs, expOk, hpL, zMach, Mach.own]
          · simp [expET, expEA, expEs, expEAs, expE1, zMach, Mach.own]
          · simp [expGT, expGA, expGs, expGAs, expG1, zMach, Mach.own]
end Go.Proofs.Ma
