/- Part of a proof over the seat Ytjdmlcpngddgaaa: what the text lends is said at its theorems. -/
import Derived.Test.YtjdmlcpngddgaaaAlLaw
namespace Go.Al
open Go
theorem typed_int {P : Program} {t : TypeId} {ds : List D} {k : IntKind} (h : Typed P t ds) (u : P.underlying t = some (.int k)) : ∃ n, ds = [.int k n] ∧ k.wrap n = n := by
  cases h with
  | int h hn => rw [u] at h; injection h with h; injection h with h; subst h; exact ⟨_, rfl, hn⟩
  | bool h => rw [u] at h; injection h with h; injection h
  | str h => rw [u] at h; injection h with h; injection h
  | sl h => rw [u] at h; injection h with h; injection h
  | struct h => rw [u] at h; injection h with h; injection h
theorem typed_bool {P : Program} {t : TypeId} {ds : List D} (h : Typed P t ds) (u : P.underlying t = some .bool) : ∃ b, ds = [.bool b] := by
  cases h with
  | int h hn => rw [u] at h; injection h with h; injection h
  | bool h => exact ⟨_, rfl⟩
  | str h => rw [u] at h; injection h with h; injection h
  | sl h => rw [u] at h; injection h with h; injection h
  | struct h => rw [u] at h; injection h with h; injection h
theorem typed_str {P : Program} {t : TypeId} {ds : List D} (h : Typed P t ds) (u : P.underlying t = some .string) : ∃ s, ds = [.str s] ∧ s.size ≤ maxLen := by
  cases h with
  | int h hn => rw [u] at h; injection h with h; injection h
  | bool h => rw [u] at h; injection h with h; injection h
  | str h hs => exact ⟨_, rfl, hs⟩
  | sl h => rw [u] at h; injection h with h; injection h
  | struct h => rw [u] at h; injection h with h; injection h
theorem typed_sl {P : Program} {t e : TypeId} {ds : List D} (h : Typed P t ds) (u : P.underlying t = some (.slice e)) : ∃ xs, ds = [.sl xs] ∧ xs.length ≤ maxLen ∧ ∀ cs ∈ xs, Typed P e cs := by
  cases h with
  | int h hn => rw [u] at h; injection h with h; injection h
  | bool h => rw [u] at h; injection h with h; injection h
  | str h hs => rw [u] at h; injection h with h; injection h
  | sl h hl hx => rw [u] at h; injection h with h; injection h with h; subst h; exact ⟨_, rfl, hl, hx⟩
  | struct h => rw [u] at h; injection h with h; injection h
def Fields (P : Program) : List TypeId → List D → Prop
  | [], ds => ds = []
  | t :: ts, ds => ∃ a b, ds = a ++ b ∧ Typed P t a ∧ Fields P ts b
theorem fields_of {P : Program} : ∀ {ts : List TypeId} {dss : List (List D)}, dss.length = ts.length → (∀ (i : Nat) (t : TypeId) (ds : List D), ts[i]? = some t → dss[i]? = some ds → Typed P t ds) → Fields P ts dss.flatten
  | [], [], _, _ => rfl
  | t :: ts, d :: dss, hl, h => ⟨d, dss.flatten, rfl, h 0 t d rfl rfl, fields_of (by simpa using hl) fun i t ds h1 h2 => h (i + 1) t ds (by simpa using h1) (by simpa using h2)⟩
def fldTys (P : Program) (t : TypeId) : Option (List TypeId) := match P.underlying t with
  | some (.struct fs) => some (fs.toList.map (·.type))
  | _ => none
theorem typed_struct {P : Program} {t : TypeId} {ts : List TypeId} {ds : List D} (h : Typed P t ds) (u : fldTys P t = some ts) : Fields P ts ds := by
  unfold fldTys at u
  cases h with
  | int h hn => rw [h] at u; simp at u
  | bool h => rw [h] at u; simp at u
  | str h hs => rw [h] at u; simp at u
  | sl h hl hx => rw [h] at u; simp at u
  | struct h hl hd =>
    rw [h] at u; simp only [Option.some.injEq] at u; subst u
    refine fields_of (by simpa using hl) fun i t ds h1 h2 => ?_
    rw [List.getElem?_map] at h1
    obtain ⟨f, hf, rfl⟩ := Option.map_eq_some_iff.1 h1
    exact hd i f ds (by simpa using hf) h2
theorem list_enc {X : Type} {E : X → List D} {W : X → Prop} : ∀ {xs : List (List D)}, (∀ cs ∈ xs, ∃ x, cs = E x ∧ W x) → ∃ ys : List X, xs = ys.map E ∧ ∀ y ∈ ys, W y
  | [], _ => ⟨[], rfl, by simp⟩
  | c :: cs, h => by
    obtain ⟨x, rfl, hx⟩ := h c (by simp)
    obtain ⟨ys, rfl, hy⟩ := list_enc (X := X) (E := E) (W := W) (xs := cs) fun c' hc => h c' (by simp [hc])
    exact ⟨x :: ys, rfl, by simp; exact ⟨hx, hy⟩⟩
theorem argAV_struct {P : Program} {t : TypeId} {ts : List TypeId} {ds : List D} (u : fldTys P t = some ts) : argAV P t ds = .agg (ds.map (MD .st)) := by
  unfold fldTys at u
  unfold argAV
  split at u
  · rename_i h; rw [h]
  · simp at u
theorem sizeOf_cells {cs : List D} {xs : List (List D)} (h : cs ∈ xs) : SizeOf.sizeOf cs < SizeOf.sizeOf (D.sl xs) := by
  have := List.sizeOf_lt_of_mem h
  simp only [D.sl.sizeOf_spec]; omega
end Go.Al
