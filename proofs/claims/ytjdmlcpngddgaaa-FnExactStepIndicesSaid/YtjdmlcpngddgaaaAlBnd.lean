/- The abstract logic, part 18: what is known of arguments because they lie in a world. -/
import Derived.Test.YtjdmlcpngddgaaaAlRef
set_option linter.unusedVariables false
set_option linter.unusedSimpArgs false
namespace Go.Al
open Go Go.RowKit

inductive DB : D → Prop
  | int {k : IntKind} {n : Int} (h : k.wrap n = n) : DB (.int k n)
  | bool {b : Bool} : DB (.bool b)
  | str {s : ByteArray} (h : s.size ≤ maxLen) : DB (.str s)
  | sl {xs : List (List D)} (hl : xs.length ≤ maxLen) (h : ∀ cs ∈ xs, ∀ d ∈ cs, DB d) : DB (.sl xs)
theorem DB.of_int {k : IntKind} {n : Int} (h : DB (.int k n)) : k.wrap n = n := by cases h; assumption
theorem DB.of_str {s : ByteArray} (h : DB (.str s)) : s.size ≤ maxLen := by cases h; assumption
theorem DB.of_sl {xs : List (List D)} (h : DB (.sl xs)) : xs.length ≤ maxLen ∧ ∀ cs ∈ xs, ∀ d ∈ cs, DB d := by cases h; exact ⟨by assumption, by assumption⟩
theorem DRep.db {w : World} {F : Nat → Prop} {d : D} {v : Value} (h : DRep w F d v) : DB d := by
  induction h with
  | int h => exact .int h
  | bool => exact .bool
  | str h => exact .str h
  | @sl e xs A c vals he hc hm hv hr ha ih =>
    refine .sl (Nat.le_trans hc hm) fun cs hcs d hd => ?_
    have hm : d ∈ xs.flatten := List.mem_flatten.2 ⟨cs, hcs, hd⟩
    obtain ⟨j, hj⟩ := List.getElem?_of_mem hm
    have hl : j < xs.flatten.length := (List.getElem?_eq_some_iff.1 hj).1
    exact ih j d _ hj (List.getElem?_eq_getElem (by omega))
mutual
def AB : AV → Prop
  | .int k n => k.wrap n = n
  | .str s => s.size ≤ maxLen
  | .sl .st xs => DB (.sl xs)
  | .iptr .st cs => ∀ d ∈ cs, DB d
  | .agg cs => ABs cs
  | .tup cs => ABs cs
  | .fn _ cs => ABs cs
  | _ => True
def ABs : List AV → Prop
  | [] => True
  | a :: as => AB a ∧ ABs as
end
mutual
theorem VRep.ab {w : World} {hp : Hp} {C : Co} : ∀ {a : AV} {v : Value}, VRep w hp C a v → AB a
  | .any, _, _ => by simp [AB]
  | .und, _, _ => by simp [AB]
  | .int k n, v, h => by simp only [VRep] at h; exact h.2
  | .bool b, _, _ => by simp [AB]
  | .str s, v, h => by simp only [VRep] at h; exact h.2
  | .sl m xs, v, h => by
    cases m <;> simp only [AB]
    simp only [VRep, MF] at h
    exact h.2.db
  | .iptr m cs, v, h => by
    cases m <;> simp only [AB]
    simp only [VRep, MF] at h
    obtain ⟨_, ad, _, h2⟩ := h
    intro d hd
    obtain ⟨j, hj⟩ := List.getElem?_of_mem hd
    obtain ⟨u, _, h3, _⟩ := h2 j d hj
    exact h3.db
  | .row id len, _, _ => by simp [AB]
  | .ptr id off, _, _ => by simp [AB]
  | .rptr id len i off, _, _ => by simp [AB]
  | .cel id len ver k, _, _ => by simp [AB]
  | .agg cs, v, h => by
    simp only [VRep] at h
    obtain ⟨vs, _, h2⟩ := h
    exact VReps.ab h2
  | .tup cs, v, h => by
    simp only [VRep] at h
    obtain ⟨vs, _, h2⟩ := h
    exact VReps.ab h2
  | .fn g cs, v, h => by
    simp only [VRep] at h
    obtain ⟨vs, _, h2⟩ := h
    exact VReps.ab h2
  | .nil, _, _ => by simp [AB]
  | .nilp, _, _ => by simp [AB]
theorem VReps.ab {w : World} {hp : Hp} {C : Co} : ∀ {as : List AV} {vs : List Value}, VReps w hp C as vs → ABs as
  | [], vs, h => trivial
  | a :: as, vs, h => by
    simp only [VReps] at h
    obtain ⟨v, vs', rfl, h1, h2⟩ := h
    exact ⟨VRep.ab h1, VReps.ab h2⟩
end

/-- Arguments that lie in a world are in bounds. -/
theorem acall_bnd {P : Program} {f : FuncId} {V : Nat} {args : List AV} {hp : Hp} {r : AV} {hp' : Hp} (hf : Fnd P f) (h : ABs args → ACall P V f args hp r hp') : ACall P V f args hp r hp' :=
  ⟨hf, fun C w vs H hv => (h (VReps.ab hv)).2 C w vs H hv⟩
theorem acall_gob {P : Program} {f : FuncId} {fn : Func} {c : Code} {V : Nat} {args : List AV} {h : Hl} {r : AV} {h' : Hl} (hf : P.funcs[f]? = some fn) (hname : (fn.name == "runtime.NumGoroutine") = false) (hb : fn.body = some c) (hn : args.length ≤ fn.ntmps)
    (hg : ABs args → AGo P V (endQ P V fn r (hpL h')) [.code c] .normal ⟨fn.ntmps, tmA (argA 0 args), hpL h⟩) : ACall P V f args (hpL h) r (hpL h') :=
  acall_bnd ⟨fn, c, hf, hname, hb⟩ fun k => acall_go hf hname hb hn (hg k)
theorem maxLen_le : maxLen ≤ 9223372036854775807 := by decide
theorem i64_range {n : Int} (h : IntKind.i64.wrap n = n) : -9223372036854775808 ≤ n ∧ n ≤ 9223372036854775807 := by
  have := (wrap_iff .i64 n).1 h
  simp [IntKind.min, IntKind.max, IntKind.bits, IntKind.signed] at this
  omega
end Go.Al
