/- Part of a proof over the seat Ytjdmlcpngddgaaa: what the text lends is said at its theorems. -/
import Derived.Test.YtjdmlcpngddgaaaMa9
set_option linter.unusedVariables false
set_option linter.unusedSimpArgs false
set_option maxRecDepth 20000
namespace Go.Proofs.Ma
open Go Go.Al Go.Proofs
open Go.Proofs.Tst (c_l1In c_l1Atom c_isAtom mixed)

instance : Inhabited Mov := ⟨⟨0, 0⟩⟩
def pA (a : Mach) : Nat := 2 ^ a.r.toNat
def prodAcc (a b : Mach) (sm : Bool) (s : Nat) : Bool := (a.acc.getD (s / b.acc.length) false && b.acc.getD (s % b.acc.length) false) || (sm && (a.acc.getD (s / b.acc.length) false || b.acc.getD (s % b.acc.length) false))
def prodX (a b : Mach) (s n : Nat) : Mov := a.mov.getD ((s / b.acc.length) * pA a + n % pA a) default
def prodY (a b : Mach) (s n : Nat) : Mov := b.mov.getD ((s % b.acc.length) * pA b + n / pA a) default
def prodC (a b : Mach) : Nat := pA a * pA b
def prodMv (a b : Mach) (t : Nat) : Mov := joinM a b (prodX a b (t / prodC a b) (t % prodC a b)) (prodY a b (t / prodC a b) (t % prodC a b))
def prodOk (a b : Mach) (t : Nat) : Bool := joinOk (prodX a b (t / prodC a b) (t % prodC a b)) (prodY a b (t / prodC a b) (t % prodC a b))
def prodPre (a b : Mach) : Bool := isM a && isM b && decide (a.s * b.s ≤ 9 ∧ a.r + b.r ≤ 3)
def prodAll (a b : Mach) : Bool := (List.range (a.acc.length * b.acc.length * prodC a b)).all (prodOk a b)
def prodRes (a b : Mach) (sm : Bool) : Mach := ⟨a.s * b.s, a.r + b.r, (List.range (a.acc.length * b.acc.length)).map (prodAcc a b sm), (List.range (a.acc.length * b.acc.length * prodC a b)).map (prodMv a b)⟩
def prodM (a b : Mach) (sm : Bool) : Mach × Bool := if prodPre a b && prodAll a b then (prodRes a b sm, true) else (zMach, false)

theorem isM_mov {x : Mach} (h : isM x = true) {m : Mov} (hm : m ∈ x.mov) : okMov x.s x.r m = true := by
  simp only [isM, Bool.and_eq_true] at h
  exact List.all_eq_true.1 h.2 m hm
theorem pA_pow {x : Mach} (h : isM x = true) : 1 ≤ pA x ∧ pA x ≤ 8 ∧ x.mov.length = x.acc.length * pA x := by
  obtain ⟨h1, h2, h3, h4, h5, h6, _⟩ := isM_ok h
  have : x.r = 0 ∨ x.r = 1 ∨ x.r = 2 ∨ x.r = 3 := by omega
  unfold pA
  rcases this with e | e | e | e <;> rw [e] at h6 ⊢ <;> simp at h6 ⊢ <;> omega
theorem div_at {s C n : Nat} (h : n < C) : (s * C + n) / C = s ∧ (s * C + n) % C = n := by
  constructor
  · rw [Nat.mul_comm, Nat.mul_add_div (by omega), Nat.div_eq_of_lt h]; omega
  · rw [Nat.mul_comm, Nat.mul_add_mod, Nat.mod_eq_of_lt h]
theorem getD_at {α : Type} {xs : List α} {i : Nat} {x d : α} (h : xs[i]? = some x) : xs.getD i d = x := by rw [List.getD_eq_getElem?_getD, h]; rfl

theorem powI (r : Int) : ((2 ^ r.toNat : Nat) : Int) = (2 : Int) ^ r.toNat := by simp
theorem c_ProductMachine (a b : Mach) (sm : Bool) : ACall Try.prog 0 32 [.agg (a.enc.map (MD .st)), .agg (b.enc.map (MD .st)), .bool sm] (hpL []) (.tup [(prodM a b sm).1.own, .bool (prodM a b sm).2]) (hpL []) := by
  obtain ⟨sa, ra, aa, ma⟩ := a
  obtain ⟨sb, rb, ab, mb⟩ := b
  generalize ha : (⟨sa, ra, aa, ma⟩ : Mach) = a
  generalize hb : (⟨sb, rb, ab, mb⟩ : Mach) = b
  have ea : a.enc = [.int .i64 sa, .int .i64 ra, .sl (aa.map encB), .sl (ma.map Mov.enc)] := by rw [← ha]; rfl
  have eb : b.enc = [.int .i64 sb, .int .i64 rb, .sl (ab.map encB), .sl (mb.map Mov.enc)] := by rw [← hb]; rfl
  have cia := c_IsMachine a
  have cib := c_IsMachine b
  rw [ea] at cia
  rw [eb] at cib
  rw [ea, eb]
  have bad : prodPre a b = false ∨ prodAll a b = false → prodM a b sm = (zMach, false) := fun h => by
    unfold prodM
    rcases h with h | h <;> simp [h]
  refine acall_go (fn := Try.f32) (by kernel_rfl) (by kernel_rfl) (by rfl) (Nat.le_of_ble_eq_true rfl) ?_
  show AGo _ _ _ _ _ ⟨151, _, _⟩
  repeat refine go1 (F := F) rfl ?_
  refine goCall [] rfl rfl rfl rfl (cia) (by repeat' first | exact ⟨by simp, _, _, _, _, rfl, (by first | rfl | (simp; done)), rfl⟩ | constructor | (simp; done)) (.inl rfl) rfl rfl ?_
  repeat refine go1 (F := F) rfl ?_
  refine goGuard rfl rfl rfl (fun g1 => ?_) (fun g1 => ?_) <;> (try simp at g1) <;> (repeat refine go1 (F := F) rfl ?_)
  · rw [bad (.inl (by simp [prodPre, g1]))]
    refine goFin (F := F) rfl ?_ ?_ ?_
    · simp [expOkT, expOkA, expOks, expOkAs, expOk, hpL, zMach, Mach.own]
    · simp [expET, expEA, expEs, expEAs, expE1, zMach, Mach.own]
    · simp [expGT, expGA, expGs, expGAs, expG1, zMach, Mach.own]
  · refine goCall [] rfl rfl rfl rfl (cib) (by repeat' first | exact ⟨by simp, _, _, _, _, rfl, (by first | rfl | (simp; done)), rfl⟩ | constructor | (simp; done)) (.inl rfl) rfl rfl ?_
    repeat refine go1 (F := F) rfl ?_
    refine goGuard rfl rfl rfl (fun g2 => ?_) (fun g2 => ?_) <;> (try simp at g2) <;> (repeat refine go1 (F := F) rfl ?_)
    · rw [bad (.inl (by simp [prodPre, g2]))]
      refine goFin (F := F) rfl ?_ ?_ ?_
      · simp [expOkT, expOkA, expOks, expOkAs, expOk, hpL, zMach, Mach.own]
      · simp [expET, expEA, expEs, expEAs, expE1, zMach, Mach.own]
      · simp [expGT, expGA, expGs, expGAs, expG1, zMach, Mach.own]
    · obtain ⟨a1, a2, a3, a4, a5, a6, a7⟩ := isM_ok g1
      obtain ⟨b1, b2, b3, b4, b5, b6, b7⟩ := isM_ok g2
      have ka := pA_pow g1
      have kb := pA_pow g2
      subst ha hb
      simp only at a1 a2 a3 a4 a5 a6 a7 b1 b2 b3 b4 b5 b6 b7 ka kb
      have hmul : 0 ≤ sa * sb ∧ sa * sb ≤ 81 := ⟨Int.mul_nonneg (by omega) (by omega), by have := Int.mul_le_mul a2 b2 (by omega) (by omega : (0:Int) ≤ 9); omega⟩
      rw [wrap64 (n := sa * sb) (by omega) (by omega)]
      refine goGuard rfl rfl rfl (fun g3 => ?_) (fun g3 => ?_) <;> (try simp at g3) <;> (repeat refine go1 (F := F) rfl ?_)
      · rw [bad (.inl (by simp [prodPre]; omega))]
        refine goFin (F := F) rfl ?_ ?_ ?_
        · simp [expOkT, expOkA, expOks, expOkAs, expOk, hpL, zMach, Mach.own]
        · simp [expET, expEA, expEs, expEAs, expE1, zMach, Mach.own]
        · simp [expGT, expGA, expGs, expGAs, expG1, zMach, Mach.own]
      · rw [wrap64 (n := ra + rb) (by omega) (by omega)]
        refine goIf rfl (fun g4 => ?_) (fun g4 => ?_) <;> (try simp at g4) <;> (repeat refine go1 (F := F) rfl ?_)
        · rw [bad (.inl (by simp [prodPre]; omega))]
          refine goFin (F := F) rfl ?_ ?_ ?_
          · simp [expOkT, expOkA, expOks, expOkAs, expOk, hpL, zMach, Mach.own]
          · simp [expET, expEA, expEs, expEAs, expE1, zMach, Mach.own]
          · simp [expGT, expGA, expGs, expGAs, expG1, zMach, Mach.own]
        · have hpre : prodPre ⟨sa, ra, aa, ma⟩ ⟨sb, rb, ab, mb⟩ = true := by simp [prodPre, g1, g2, g3, g4]
          refine goMatBox 3 2 1 true (Nat.le_of_ble_eq_true rfl) rfl rfl rfl rfl rfl ?_
          refine goMatBox 3 3 2 true (Nat.le_of_ble_eq_true rfl) rfl rfl rfl rfl rfl ?_
          rw [wrap64 (n := sa * sb) (by omega) (by omega), wrap64 (n := ra + rb) (by omega) (by omega)]
          obtain ⟨a, hA⟩ : ∃ a : Mach, a = ⟨sa, ra, aa, ma⟩ := ⟨_, rfl⟩
          obtain ⟨b, hB⟩ : ∃ b : Mach, b = ⟨sb, rb, ab, mb⟩ := ⟨_, rfl⟩
          have eA : pA a = 2 ^ ra.toNat := by rw [hA]; rfl
          have eB : pA b = 2 ^ rb.toNat := by rw [hB]; rfl
          rw [← hA] at g1 ka
          rw [← hB] at g2 kb
          rw [← hA, ← hB] at bad hpre ⊢
          have haa : a.acc = aa := by rw [hA]
          have hab : b.acc = ab := by rw [hB]
          have hma : a.mov = ma := by rw [hA]
          have hmb : b.mov = mb := by rw [hB]
          have hC : 1 ≤ prodC a b ∧ prodC a b ≤ 64 := by
            unfold prodC
            exact ⟨Nat.mul_pos ka.1 kb.1, Nat.mul_le_mul ka.2.1 kb.2.1⟩
          let HH : Nat → Nat → Hl := fun k m => [some (.box [.int .i64 sa, .int .i64 ra, .sl .st (aa.map encB), .sl .st (ma.map Mov.enc)]), some (.box [.int .i64 sb, .int .i64 rb, .sl .st (ab.map encB), .sl .st (mb.map Mov.enc)]),
            some (.box [.int .i64 0, .int .i64 0, .nil, .nil]), some (.box [.int .i64 (sa * sb), .int .i64 (ra + rb), .row 4 k, .row 5 m]), some (.row true k 1 ((List.range k).map fun s => encB (prodAcc a b sm s))), some (.row true m 2 ((List.range m).map fun t => (prodMv a b t).enc))]
          refine goLoop (X := {p : Nat // p ≤ aa.length ∧ ∀ t, t < p * ab.length * prodC a b → prodOk a b t = true}) (fun p => [(2, .bool sm), (3, .ptr 0 0), (4, .ptr 1 0), (6, .ptr 2 0), (8, .ptr 3 0), (53, .int .i64 sa), (54, .int .i64 p.1)]) (fun p => HH (p.1 * ab.length) (p.1 * ab.length * prodC a b)) (fun p => aa.length - p.1) (⟨0, by simp⟩) (Le.weak [] (by repeat' first | constructor | omega | (simp; done) | (simp; omega)) (by repeat' first | constructor | omega | (simp; done) | (simp; omega)) (by simp) (by intro i hi; first | omega | (rcases i with _ | _ | _ | i <;> first | (intro _; rfl) | omega))) ?_
          rintro ⟨p, hp, hok⟩
          simp only at hp hok ⊢
          repeat refine go1 (F := F) rfl ?_
          refine goIf rfl (fun hr => ?_) (fun hr => ?_) <;> (try simp at hr) <;> (repeat refine go1 (F := F) rfl ?_)
          · refine goLoop (X := {q : Nat // q ≤ ab.length ∧ ∀ t, t < (p * ab.length + q) * prodC a b → prodOk a b t = true}) (fun q => [(2, .bool sm), (3, .ptr 0 0), (4, .ptr 1 0), (6, .ptr 2 0), (8, .ptr 3 0), (53, .int .i64 sa), (54, .int .i64 p), (9, .int .i64 p), (58, .int .i64 sb), (59, .int .i64 q.1)]) (fun q => HH (p * ab.length + q.1) ((p * ab.length + q.1) * prodC a b)) (fun q => ab.length - q.1) (⟨0, Nat.zero_le _, by simpa using hok⟩) (Le.weak [] (by repeat' first | constructor | omega | (simp; done) | (simp; omega)) (by repeat' first | constructor | omega | (simp; done) | (simp; omega)) (by simp) (by intro i hi; first | omega | (rcases i with _ | _ | _ | i <;> first | (intro _; rfl) | omega))) ?_
            rintro ⟨q, hq, hok2⟩
            simp only at hq hok2 ⊢
            repeat refine go1 (F := F) rfl ?_
            refine goIf rfl (fun hr2 => ?_) (fun hr2 => ?_) <;> (try simp at hr2) <;> (repeat refine go1 (F := F) rfl ?_)
            · obtain ⟨x, hx⟩ := at_of (xs := aa) (i := p) (by omega)
              obtain ⟨y, hy⟩ := at_of (xs := ab) (i := q) (by omega)
              obtain ⟨s, hs⟩ : ∃ s, s = p * ab.length + q := ⟨_, rfl⟩
              obtain ⟨d1, d2⟩ := div_at (s := p) (C := ab.length) (n := q) (by omega)
              rw [← hs] at d1 d2 hok2 ⊢
              have hN : s + 1 ≤ aa.length * ab.length := by
                have := Nat.mul_le_mul_right ab.length (show p + 1 ≤ aa.length by omega)
                rw [Nat.add_mul] at this; omega
              have hN9 : aa.length * ab.length ≤ 9 := by
                have : ((aa.length * ab.length : Nat) : Int) ≤ 9 := by rw [Int.natCast_mul, a5, b5]; exact g3
                omega
              have hv : prodAcc a b sm s = ((x && y) || (sm && (x || y))) := by
                unfold prodAcc; rw [hab, haa, d1, d2, getD_at hx, getD_at hy]
              refine goCut (X := Unit) 1 (fun _ => [(2, .bool sm), (3, .ptr 0 0), (4, .ptr 1 0), (6, .ptr 2 0), (8, .ptr 3 0), (53, .int .i64 sa), (54, .int .i64 p), (9, .int .i64 p), (58, .int .i64 sb), (59, .int .i64 q), (10, .int .i64 q)]) (fun _ => HH (s + 1) (s * prodC a b)) rfl ?_ ?_
              · cases x <;> cases y <;> cases sm
                all_goals
                  refine goDraw ?_
                  repeat first | refine dgo1 (F := F) rfl ?_ | refine dgoAlloc (F := F) rfl rfl rfl rfl rfl rfl rfl ?_
                  repeat first | refine dgo1 (F := F) rfl ?_ | refine dgoAlloc (F := F) rfl rfl rfl rfl rfl rfl rfl ?_ | refine dgoAt (F := F) rfl rfl rfl rfl rfl rfl rfl (by first | exact Int.natCast_nonneg _ | omega) (map_at hx) rfl rfl (Nat.zero_lt_succ _) ?_ | refine dgoAt (F := F) rfl rfl rfl rfl rfl rfl rfl (by first | exact Int.natCast_nonneg _ | omega) (map_at hy) rfl rfl (Nat.zero_lt_succ _) ?_
                  refine dgoLoud rfl rfl rfl (build_ok (F := F) true (e := 1) rfl rfl rfl rfl (Nat.zero_lt_succ _) rfl rfl rfl rfl rfl rfl (Nat.le_of_ble_eq_true rfl) rfl) ?_
                  repeat first | refine dgo1 (F := F) rfl ?_ | refine dgoAlloc (F := F) rfl rfl rfl rfl rfl rfl rfl ?_
                  refine dgoLoud rfl rfl rfl (app_ok (F := F) rfl rfl rfl rfl rfl rfl (Nat.zero_lt_succ _) rfl rfl (by first | rfl | (simp; done) | (simp; omega) | omega) (.rowFlat rfl rfl (by intro cs hcs d hd; simp at hcs; subst hcs; simp at hd; subst hd; rfl)) rfl (by first | omega | (simp; omega) | simp) (Nat.zero_lt_succ _) rfl) ?_
                  repeat first | refine dgo1 (F := F) rfl ?_ | refine dgoAlloc (F := F) rfl rfl rfl rfl rfl rfl rfl ?_
                  refine dgoEndQ (F := F) mixed [(0, 32), (1, 32)] (by kernel_rfl) (by kernel_rfl) (by kernel_rfl) ?_
                  repeat refine go1 (F := F) rfl ?_
                  refine goInv ⟨(), Le.weak [] (by repeat' constructor) (by repeat' first | constructor | exact (by rw [← range_snoc, hv]; rfl)) (by simp) (by intro i hi; omega)⟩
              · rintro ⟨⟩
                repeat refine go1 (F := F) rfl ?_
                refine goEv (F := F) rfl rfl (evQ_bin rfl rfl rfl (ev_shl (by omega))) ?_
                repeat refine go1 (F := F) rfl ?_
                have hmn : min (ra + rb).toNat IntKind.i64.bits = ra.toNat + rb.toNat := by simp [IntKind.bits]; omega
                have hCe : (1 : Int) * 2 ^ (min (ra + rb).toNat IntKind.i64.bits) = (prodC a b : Nat) := by
                  rw [hmn, Int.one_mul]; unfold prodC; rw [eA, eB, ← Nat.pow_add]; simp
                rw [hCe, wrap64 (n := (prodC a b : Nat)) (by omega) (by omega)]
                refine goLoop (X := {n : Nat // n ≤ prodC a b ∧ ∀ t, t < s * prodC a b + n → prodOk a b t = true}) (fun n => [(2, .bool sm), (3, .ptr 0 0), (4, .ptr 1 0), (6, .ptr 2 0), (8, .ptr 3 0), (53, .int .i64 sa), (54, .int .i64 p), (9, .int .i64 p), (58, .int .i64 sb), (59, .int .i64 q), (10, .int .i64 q), (98, .int .i64 (prodC a b)), (99, .int .i64 n.1)]) (fun n => HH (s + 1) (s * prodC a b + n.1)) (fun n => prodC a b - n.1) (⟨0, Nat.zero_le _, by simpa using hok2⟩) (Le.weak [] (by repeat' first | constructor | omega | (simp; done) | (simp; omega)) (by repeat' first | constructor | omega | (simp; done) | (simp; omega)) (by simp) (by intro i hi; first | omega | (rcases i with _ | _ | _ | i <;> first | (intro _; rfl) | omega))) ?_
                rintro ⟨n, hn, hok3⟩
                simp only at hn hok3 ⊢
                repeat refine go1 (F := F) rfl ?_
                refine goIf rfl (fun hr3 => ?_) (fun hr3 => ?_) <;> (try simp at hr3) <;> (repeat refine go1 (F := F) rfl ?_)
                · have hnC : n < prodC a b := by omega
                  obtain ⟨d3, d4⟩ := div_at (s := s) (C := prodC a b) (n := n) hnC
                  have hix : p * pA a + n % pA a < ma.length := by
                    have h1 := Nat.mod_lt n (show 0 < pA a by omega)
                    have h2 := Nat.mul_le_mul_right (pA a) (show p + 1 ≤ aa.length by omega)
                    rw [Nat.add_mul] at h2; rw [ka.2.2]; omega
                  have hdB : n / pA a < pA b := Nat.div_lt_of_lt_mul (by unfold prodC at hnC; exact hnC)
                  have hiy : q * pA b + n / pA a < mb.length := by
                    have h2 := Nat.mul_le_mul_right (pA b) (show q + 1 ≤ ab.length by omega)
                    rw [Nat.add_mul] at h2; rw [kb.2.2]; omega
                  obtain ⟨x', hx'⟩ := at_of hix
                  obtain ⟨y', hy'⟩ := at_of hiy
                  have ex : prodX a b s n = x' := by unfold prodX; rw [hab, hma, d1]; exact getD_at hx'
                  have ey : prodY a b s n = y' := by unfold prodY; rw [hab, hmb, d2]; exact getD_at hy'
                  have emv : prodMv a b (s * prodC a b + n) = joinM a b x' y' := by unfold prodMv; rw [d3, d4, ex, ey]
                  have eok : prodOk a b (s * prodC a b + n) = joinOk x' y' := by unfold prodOk; rw [d3, d4, ex, ey]
                  have okx := isM_mov g1 (m := x') (by rw [hma]; exact List.mem_of_getElem? hx')
                  have oky := isM_mov g2 (m := y') (by rw [hmb]; exact List.mem_of_getElem? hy')
                  rw [show a.s = sa by rw [hA], show a.r = ra by rw [hA]] at okx
                  rw [show b.s = sb by rw [hB], show b.r = rb by rw [hB]] at oky
                  have hmm : s * prodC a b + n + 1 ≤ 576 ∧ s * prodC a b + n < aa.length * ab.length * prodC a b := by
                    have h1 := Nat.mul_le_mul hN (Nat.le_refl (prodC a b))
                    have h2 := Nat.mul_le_mul hN9 hC.2
                    rw [Nat.add_mul] at h1
                    omega
                  obtain ⟨xt, xs⟩ := x'
                  obtain ⟨yt, ys⟩ := y'
                  simp only [okMov, Bool.and_eq_true, decide_eq_true_eq] at okx oky
                  have cj := c_joined ⟨sa, ra, aa, ma⟩ ⟨sb, rb, ab, mb⟩ ⟨xt, xs⟩ ⟨yt, ys⟩ (by simp only; omega) (by simp only; omega) (by simp only; omega) (by simp only; omega) (by simp only; omega)
                  have hz0 : joinM ⟨sa, ra, aa, ma⟩ ⟨sb, rb, ab, mb⟩ ⟨xt, xs⟩ ⟨yt, ys⟩ = joinM a b ⟨xt, xs⟩ ⟨yt, ys⟩ := by rw [hA, hB]
                  rw [hz0, ← emv, ← eok] at cj
                  generalize hz : prodMv a b (s * prodC a b + n) = z at cj
                  obtain ⟨zt, zs⟩ := z
                  have hs1 : (p : Int) * 2 ^ (min ra.toNat IntKind.i64.bits) = ((p * pA a : Nat) : Int) := by
                    rw [show min ra.toNat IntKind.i64.bits = ra.toNat by simp [IntKind.bits]; omega, eA]; simp
                  have hs2 : (1 : Int) * 2 ^ (min ra.toNat IntKind.i64.bits) = ((2 ^ ra.toNat : Nat) : Int) := by
                    rw [show min ra.toNat IntKind.i64.bits = ra.toNat by simp [IntKind.bits]; omega]; simp
                  have hs3 : (q : Int) * 2 ^ (min rb.toNat IntKind.i64.bits) = ((q * pA b : Nat) : Int) := by
                    rw [show min rb.toNat IntKind.i64.bits = rb.toNat by simp [IntKind.bits]; omega, eB]; simp
                  have hs4 : (n : Int).fdiv (2 ^ (min ra.toNat IntKind.i64.bits)) = ((n / pA a : Nat) : Int) := by
                    rw [show min ra.toNat IntKind.i64.bits = ra.toNat by simp [IntKind.bits]; omega, eA, ← powI]
                    exact (Int.ofNat_fdiv n _).symm
                  have hpl : ra.toNat ≤ 3 ∧ (2 ^ ra.toNat : Nat) ≤ 8 ∧ 1 ≤ (2 ^ ra.toNat : Nat) := ⟨by omega, by rw [← eA]; exact ka.2.1, by rw [← eA]; exact ka.1⟩
                  have k1 : q * pA b ≤ 72 := Nat.le_trans (Nat.le_add_right _ _) (Nat.le_trans (Nat.le_of_lt hiy) b7)
                  have k2 : n / pA a ≤ 64 := Nat.le_trans (Nat.div_le_self _ _) (Nat.le_trans hn hC.2)
                  have k3 : q * pA b + n / pA a ≤ 72 := Nat.le_trans (Nat.le_of_lt hiy) b7
                  have k4 : p * pA a ≤ 72 := Nat.le_trans (Nat.le_add_right _ _) (Nat.le_trans (Nat.le_of_lt hix) a7)
                  have k5 : p * pA a + n % pA a ≤ 72 := Nat.le_trans (Nat.le_of_lt hix) a7
                  refine goDraw ?_
                  repeat first | refine dgo1 (F := F) rfl ?_ | refine dgoAlloc (F := F) rfl rfl rfl rfl rfl rfl rfl ?_
                  refine dgoEv (F := F) rfl rfl rfl rfl (evQ_bin rfl rfl rfl (ev_shl a3)) ?_
                  repeat first | refine dgo1 (F := F) rfl ?_ | refine dgoAlloc (F := F) rfl rfl rfl rfl rfl rfl rfl ?_
                  refine dgoEv (F := F) rfl rfl rfl rfl (evQ_bin rfl rfl rfl (ev_shl a3)) ?_
                  repeat first | refine dgo1 (F := F) rfl ?_ | refine dgoAlloc (F := F) rfl rfl rfl rfl rfl rfl rfl ?_
                  rw [hs1, hs2, wrap64 (n := ((2 ^ ra.toNat : Nat) : Int)) (by omega) (by omega), wrap64 (n := ((2 ^ ra.toNat : Nat) : Int) - 1) (by omega) (by omega), and_mask n ra.toNat (by omega) (by omega), ← eA, wrapN (k := p * pA a) (Nat.le_trans k4 (by decide)), ← Int.natCast_add, wrapN (k := p * pA a + n % pA a) (Nat.le_trans k5 (by decide))]
                  refine dgoAt (F := F) rfl rfl rfl rfl rfl rfl rfl (by first | exact Int.natCast_nonneg _ | omega) (map_at hx') rfl rfl (Nat.zero_lt_succ _) ?_
                  repeat first | refine dgo1 (F := F) rfl ?_ | refine dgoAlloc (F := F) rfl rfl rfl rfl rfl rfl rfl ?_
                  refine dgoEndFQ (F := F) mixed 15 [] (by kernel_rfl) (by kernel_rfl) (by kernel_rfl) (by kernel_rfl) (by kernel_rfl) ?_
                  repeat refine go1 (F := F) rfl ?_
                  refine goDraw ?_
                  repeat first | refine dgo1 (F := F) rfl ?_ | refine dgoAlloc (F := F) rfl rfl rfl rfl rfl rfl rfl ?_
                  refine dgoEv (F := F) rfl rfl rfl rfl (evQ_bin rfl rfl rfl (ev_shl b3)) ?_
                  repeat first | refine dgo1 (F := F) rfl ?_ | refine dgoAlloc (F := F) rfl rfl rfl rfl rfl rfl rfl ?_
                  refine dgoEv (F := F) rfl rfl rfl rfl (evQ_bin rfl rfl rfl (ev_shr a3 (by rw [hs4]; exact wrapN (Nat.le_trans k2 (by decide))))) ?_
                  repeat first | refine dgo1 (F := F) rfl ?_ | refine dgoAlloc (F := F) rfl rfl rfl rfl rfl rfl rfl ?_
                  rw [hs3, hs4, wrapN (k := q * pA b) (Nat.le_trans k1 (by decide)), ← Int.natCast_add, wrapN (k := q * pA b + n / pA a) (Nat.le_trans k3 (by decide))]
                  refine dgoAt (F := F) rfl rfl rfl rfl rfl rfl rfl (by first | exact Int.natCast_nonneg _ | omega) (map_at hy') rfl rfl (Nat.zero_lt_succ _) ?_
                  repeat first | refine dgo1 (F := F) rfl ?_ | refine dgoAlloc (F := F) rfl rfl rfl rfl rfl rfl rfl ?_
                  refine dgoEndFQ (F := F) mixed 13 [] (by kernel_rfl) (by kernel_rfl) (by kernel_rfl) (by kernel_rfl) (by kernel_rfl) ?_
                  repeat refine go1 (F := F) rfl ?_
                  refine goCall [] rfl rfl rfl rfl (cj) (by repeat' first | exact ⟨by simp, _, _, _, _, rfl, (by first | rfl | (simp; done)), rfl⟩ | constructor | (simp; done)) (.inl rfl) rfl rfl ?_
                  repeat refine go1 (F := F) rfl ?_
                  refine goIf rfl (fun h9 => ?_) (fun h9 => ?_) <;> (try simp at h9) <;> (repeat refine go1 (F := F) rfl ?_)
                  · have hf : prodAll a b = false := by
                      cases hpa : prodAll a b with
                      | false => rfl
                      | true =>
                        have := List.all_eq_true.1 hpa (s * prodC a b + n) (by rw [haa, hab]; exact List.mem_range.2 hmm.2)
                        rw [h9] at this; simp at this
                    rw [bad (.inr hf)]
                    refine goFin (F := F) rfl ?_ ?_ ?_
                    · simp [expOkT, expOkA, expOks, expOkAs, expOk, hpL, zMach, Mach.own]
                    · simp [expET, expEA, expEs, expEAs, expE1, zMach, Mach.own]
                    · simp [expGT, expGA, expGs, expGAs, expG1, zMach, Mach.own]
                  · refine goBuild (F := F) true (e := 2) rfl rfl rfl rfl rfl rfl (Nat.zero_lt_succ _) rfl rfl rfl rfl rfl rfl (Nat.le_of_ble_eq_true rfl) rfl ?_
                    repeat refine go1 (F := F) rfl ?_
                    refine goApp (F := F) rfl rfl rfl rfl rfl rfl rfl rfl (Nat.zero_lt_succ _) rfl rfl (by first | rfl | (simp; done) | (simp; omega) | omega) (.rowFlat rfl rfl (by intro cs hcs d hd; simp at hcs; subst hcs; simp at hd; rcases hd with rfl | rfl <;> rfl)) rfl (by first | omega | (simp; omega) | simp) (Nat.zero_lt_succ _) rfl ?_
                    repeat refine go1 (F := F) rfl ?_
                    rw [wrap64 (n := (n : Int) + 1) (by omega) (by omega)]
                    have hok4 : ∀ t, t < s * prodC a b + (n + 1) → prodOk a b t = true := fun t ht => by
                      rcases Nat.lt_or_ge t (s * prodC a b + n) with h | h
                      · exact hok3 t h
                      · have : t = s * prodC a b + n := by omega
                        subst this; exact h9
                    have hEQ : (List.range (s * prodC a b + n)).map (fun t => (prodMv a b t).enc) ++ [[.int .i64 zt, .int .i64 zs]] = (List.range (s * prodC a b + (n + 1))).map (fun t => (prodMv a b t).enc) := by
                      have h := range_snoc (fun t => (prodMv a b t).enc) (s * prodC a b + n)
                      simp only [hz] at h
                      exact h
                    refine goInv ⟨⟨n + 1, by omega, hok4⟩, (by simp; omega), (Le.weak [] (by repeat' first | constructor | omega | exact hEQ | (simp; done) | (simp; omega)) (by repeat' first | constructor | omega | exact hEQ | (simp; done) | (simp; omega)) (by simp) (by intro i hi; first | omega | (rcases i with _ | _ | _ | i <;> first | (intro _; rfl) | omega)))⟩
                · have : n = prodC a b := by omega
                  subst this
                  rw [show s * prodC a b + prodC a b = (s + 1) * prodC a b from (Nat.succ_mul ..).symm] at hok3 ⊢
                  rw [show s + 1 = p * ab.length + (q + 1) by omega] at hok3 ⊢
                  rw [wrap64 (n := (q : Int) + 1) (by omega) (by omega)]
                  refine goInv ⟨⟨q + 1, by omega, hok3⟩, (by simp; omega), (Le.weak [] (by repeat' first | constructor | omega | (simp; done) | (simp; omega)) (by repeat' first | constructor | omega | (simp; done) | (simp; omega)) (by simp) (by intro i hi; first | omega | (rcases i with _ | _ | _ | i <;> first | (intro _; rfl) | omega)))⟩
            · have : q = ab.length := by omega
              subst this
              rw [show p * ab.length + ab.length = (p + 1) * ab.length from (Nat.succ_mul ..).symm] at hok2 ⊢
              rw [wrap64 (n := (p : Int) + 1) (by omega) (by omega)]
              refine goInv ⟨⟨p + 1, by omega, hok2⟩, (by simp; omega), (Le.weak [] (by repeat' first | constructor | omega | (simp; done) | (simp; omega)) (by repeat' first | constructor | omega | (simp; done) | (simp; omega)) (by simp) (by intro i hi; first | omega | (rcases i with _ | _ | _ | i <;> first | (intro _; rfl) | omega)))⟩
          · have : p = aa.length := by omega
            subst this
            have hall : prodAll a b = true := List.all_eq_true.2 fun t ht => hok t (by rw [haa, hab] at ht; exact List.mem_range.1 ht)
            have hM : prodM a b sm = (⟨sa * sb, ra + rb, (List.range (aa.length * ab.length)).map (prodAcc a b sm), (List.range (aa.length * ab.length * prodC a b)).map (prodMv a b)⟩, true) := by
              unfold prodM prodRes
              rw [hpre, hall, haa, hab, show a.s = sa by rw [hA], show a.r = ra by rw [hA], show b.s = sb by rw [hB], show b.r = rb by rw [hB]]; rfl
            rw [hM]
            refine goFin (F := F) rfl (by simp [expOkT, expOkA, expOks, expOkAs, expOk, hpL, Mach.own]) (by simp [expET, expEA, expEs, expEAs, expE1, Mach.own]) (by simp [expGT, expGA, expGs, expGAs, expG1, Mach.own])
end Go.Proofs.Ma
