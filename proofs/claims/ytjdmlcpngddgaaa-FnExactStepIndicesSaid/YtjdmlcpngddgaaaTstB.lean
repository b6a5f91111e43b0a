/- Part of a proof over the seat Ytjdmlcpngddgaaa: what the text lends is said at its theorems. -/
import Derived.Test.YtjdmlcpngddgaaaAlDrawGo
import Derived.Test.YtjdmlcpngddgaaaProg
namespace Go.Proofs.Tst
open Go Go.Al Go.Proofs

def tyL : List (Nat × TyI) := [
  (3, ⟨1, 8, some [.int .i64 0], none, .int .i64⟩),
  (4, ⟨1, 1, some [.bool false], none, .bool⟩),
  (22, ⟨1, 24, some [.nil], none, .slice 24⟩),
  (24, ⟨3, 40, some [.int .i64 0, .int .i64 0, .nil], some [(0, 1), (1, 1), (2, 1)], .struct [(0, 3), (1, 3), (2, 22)]⟩),
  (27, ⟨1, 24, some [.nil], none, .slice 29⟩),
  (29, ⟨3, 40, some [.int .i64 0, .int .i64 0, .nil], some [(0, 1), (1, 1), (2, 1)], .struct [(0, 3), (1, 3), (2, 27)]⟩)]
noncomputable def F : Ty := tyO tyL (tyI Try.prog)
instance : TyF Try.prog F := ⟨tyO_eq ⟨by kernel_rfl, by kernel_rfl, by kernel_rfl, by kernel_rfl, by kernel_rfl, by kernel_rfl, trivial⟩⟩

inductive Idx where
  | mk (op n : Int) (kids : List Idx)
mutual
def enc : Idx → List D
  | .mk op n kids => [.int .i64 op, .int .i64 n, .sl (encL kids)]
def encL : List Idx → List (List D)
  | [] => []
  | x :: xs => enc x :: encL xs
end
theorem encL_at {xs : List Idx} {i : Nat} {x : Idx} (h : xs[i]? = some x) : (encL xs)[i]? = some (enc x) := by
  induction xs generalizing i with
  | nil => simp at h
  | cons y ys ih => cases i with
    | zero => simp at h; subst h; simp [encL]
    | succ i => simp at h; simp [encL, ih h]
theorem encL_len (xs : List Idx) : (encL xs).length = xs.length := by
  induction xs with
  | nil => rfl
  | cons x xs ih => simp [encL, ih]

mutual
def szI : Idx → Int → Int
  | .mk _ _ kids, m => if szL kids (m - kids.length) < 0 then -1 else szL kids (m - kids.length)
def szL : List Idx → Int → Int
  | [], m => if m < 0 then -1 else m
  | x :: xs, m => if m < 0 then -1 else szL xs (szI x m)
end
def ival (n : Int) : AV := .int .i64 n

set_option maxRecDepth 2000

theorem c13 {op m : Int} {kids : List Idx} {n : Int} {r : Int} (h48 : ACall Try.prog 0 48 [.sl .st (encL kids), .int .i64 n] (hpL []) (.int .i64 r) (hpL [])) :
   ACall Try.prog 0 13 [.agg [.int .i64 op, .int .i64 m, .sl .st (encL kids)], .int .i64 n] (hpL []) (.int .i64 (if r < 0 then -1 else r)) (hpL []) := by
  refine acall_go (fn := Try.f13) (by kernel_rfl) (by kernel_rfl) (by rfl) (Nat.le_of_ble_eq_true rfl) ?_
  show AGo _ _ _ _ _ ⟨12, _, _⟩
  repeat refine go1 (F := F) rfl ?_
  refine goCall [] rfl rfl rfl rfl h48 (by repeat' constructor) (.inl rfl) rfl rfl ?_
  repeat refine go1 (F := F) rfl ?_
  refine goIf rfl (fun hr => ?_) (fun hr => ?_)
  · repeat refine go1 (F := F) rfl ?_
    refine goDone (F := F) rfl rfl ?_
    simp only [decide_eq_true_eq] at hr
    rw [if_pos hr]
  · repeat refine go1 (F := F) rfl ?_
    refine goDone (F := F) rfl rfl ?_
    simp only [decide_eq_false_iff_not] at hr
    rw [if_neg hr]

theorem szL_nil (m : Int) : szL [] m = if m < 0 then -1 else m := by rw [szL]
theorem szL_cons (x : Idx) (xs : List Idx) (m : Int) : szL (x :: xs) m = if m < 0 then -1 else szL xs (szI x m) := by rw [szL]
theorem szL_neg (xs : List Idx) {m : Int} (h : m < 0) : szL xs m = -1 := by cases xs <;> simp [szL, h]

theorem c48 {xs : List Idx} {n : Int} (h0 : 0 ≤ n) (h1 : n ≤ 1048576) (hx : xs.length ≤ 9223372036854775807) (hle : ∀ x ∈ xs, ∀ n, szI x n ≤ n ∨ szI x n = -1) (ih : ∀ x ∈ xs, ∀ n, 0 ≤ n → n ≤ 1048576 → ACall Try.prog 0 13 [.agg ((enc x).map (MD .st)), .int .i64 n] (hpL []) (.int .i64 (szI x n)) (hpL [])) :
    ACall Try.prog 0 48 [.sl .st (encL xs), .int .i64 n] (hpL []) (.int .i64 (szL xs (n - xs.length))) (hpL []) := by
  refine acall_go (fn := Try.f48) (by kernel_rfl) (by kernel_rfl) (by rfl) (Nat.le_of_ble_eq_true rfl) ?_
  show AGo _ _ _ _ _ ⟨27, _, _⟩
  repeat refine go1 (F := F) rfl ?_
  rw [encL_len, wrap64 (n := n - xs.length) (by omega) (by omega)]
  refine goIf rfl (fun hr => ?_) (fun hr => ?_)
  · repeat refine go1 (F := F) rfl ?_
    refine goDone (F := F) rfl rfl ?_
    simp only [decide_eq_true_eq] at hr
    rw [szL_neg _ hr]
  · simp only [decide_eq_false_iff_not] at hr
    repeat refine go1 (F := F) rfl ?_
    refine goLoop (X := {p : Nat × Int // p.1 ≤ xs.length ∧ 0 ≤ p.2 ∧ p.2 ≤ 1048576 ∧ szL xs (n - xs.length) = szL (xs.drop p.1) p.2})
      (fun p => [(0, .sl .st (encL xs)), (1, .int .i64 p.1.2), (5, .int .i64 p.1.1)]) (fun _ => []) (fun p => xs.length - p.1.1) ⟨(0, n - xs.length), by simp; omega⟩
      (Le.same (by repeat' constructor)) ?_
    rintro ⟨⟨i, m⟩, hi, hm0, hm1, hs⟩
    simp only at hi hm0 hm1 hs ⊢
    repeat refine go1 (F := F) rfl ?_
    rw [encL_len]
    refine goIf rfl (fun hr => ?_) (fun hr => ?_)
    · simp only [decide_eq_true_eq] at hr
      have hil : i < xs.length := by omega
      obtain ⟨⟨op, a, kids⟩, hx⟩ : ∃ x, xs[i]? = some x := ⟨_, List.getElem?_eq_getElem hil⟩
      repeat refine go1 (F := F) rfl ?_
      refine goAt (F := F) rfl rfl rfl rfl rfl rfl (by omega) (encL_at hx) rfl rfl (Nat.zero_lt_succ _) ?_
      repeat refine go1 (F := F) rfl ?_
      have hmem := List.mem_of_getElem? hx
      refine goCall [] rfl rfl rfl rfl (ih _ hmem m hm0 hm1) (by repeat' constructor) (.inl rfl) rfl rfl ?_
      repeat refine go1 (F := F) rfl ?_
      have hd : xs.drop i = Idx.mk op a kids :: xs.drop (i + 1) := by rw [List.drop_eq_getElem_cons hil]; congr 1; rw [List.getElem?_eq_getElem hil] at hx; exact Option.some.inj hx
      have hs' : szL xs (n - xs.length) = szL (xs.drop (i + 1)) (szI (.mk op a kids) m) := by rw [hs, hd, szL_cons, if_neg (by omega)]
      refine goIf rfl (fun hr => ?_) (fun hr => ?_)
      · simp only [decide_eq_true_eq] at hr
        repeat refine go1 (F := F) rfl ?_
        refine goDone (F := F) rfl rfl ?_
        rw [hs', szL_neg _ hr]
      · simp only [decide_eq_false_iff_not] at hr
        repeat refine go1 (F := F) rfl ?_
        refine goInv ⟨⟨(i + 1, szI (.mk op a kids) m), by omega, by omega, ?_, hs'⟩, ?_, Le.same ?_⟩
        · have := hle _ hmem m; simp only; omega
        · simp only; omega
        · repeat' constructor
          rw [wrap64 (by omega) (by omega)]; simp
    · simp only [decide_eq_false_iff_not] at hr
      repeat refine go1 (F := F) rfl ?_
      refine goDone (F := F) rfl rfl ?_
      have : xs.drop i = [] := List.drop_eq_nil_of_le (by omega)
      rw [hs, this, szL_nil, if_neg (by omega)]
end Go.Proofs.Tst
