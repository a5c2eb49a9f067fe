/-
  SLICES WHOSE ELEMENTS ARE THEMSELVES SLICES, AS VALUES. Conditions: none.
-/
import Derived.Test.YtdkmepjedjclkaaKAmG
set_option linter.all false
namespace Go.AM
set_option linter.all false

def cAt (cs : List AV) (i : Nat) : AV := cs.getD i .undef
theorem cAt_eq {cs : List AV} {i : Nat} (h : i < cs.length) : cs[i]? = some (cAt cs i) := by
  rw [List.getElem?_eq_getElem h]; simp [cAt, List.getD, List.getElem?_eq_getElem h]
theorem cAt_load {cs : List AV} {i : Nat} (h : i < cs.length) : loadF false 1 (.fptr (cs.drop i)) = some (cAt cs i) := by
  simp [List.head?_drop, cAt_eq h]
def gth {α : Type} [Inhabited α] (l : List α) (i : Nat) : α := l.getD i default
theorem gth_eq {α : Type} [Inhabited α] {l : List α} {i : Nat} (h : i < l.length) : l[i]? = some (gth l i) := by
  rw [List.getElem?_eq_getElem h]; simp [gth, List.getD, List.getElem?_eq_getElem h]
theorem gth_mem {α : Type} [Inhabited α] {l : List α} {i : Nat} (h : i < l.length) : gth l i ∈ l := List.mem_of_getElem? (gth_eq h)
theorem drop_gth {α : Type} [Inhabited α] {l : List α} {i : Nat} (h : i < l.length) : l.drop i = gth l i :: l.drop (i + 1) := by
  obtain ⟨h1, h2⟩ := List.getElem?_eq_some_iff.1 (gth_eq h)
  rw [List.drop_eq_getElem_cons h1, h2]

/-- A slice of cells that stand each for an element. -/
structure IsVec {α : Type} [Inhabited α] (R : AV → α → Prop) (v : AV) (cs : List AV) (l : List α) : Prop where
  n : cs.length = l.length
  rel : ∀ i, i < l.length → R (cAt cs i) (gth l i)
  cl : closedL cs = true
  v : (v = .nils ∧ l = []) ∨ ∃ ex, v = .fsl ex l.length cs
section
variable {α : Type} [Inhabited α] {R : AV → α → Prop} {v : AV} {cs : List AV} {l : List α}
theorem IsVec.closed (h : IsVec R v cs l) : v.closed = true := by rcases h.v with ⟨rfl, _⟩ | ⟨_, rfl⟩ <;> rfl
theorem IsVec.one (h : IsVec R v cs l) : v.one = true := by rcases h.v with ⟨rfl, _⟩ | ⟨_, rfl⟩ <;> rfl
theorem IsVec.cells (h : IsVec R v cs l) : v.cells = [v] := by rcases h.v with ⟨rfl, _⟩ | ⟨_, rfl⟩ <;> rfl
theorem IsVec.len (h : IsVec R v cs l) : lenSl v = some (.int .i64 l.length) := by rcases h.v with ⟨rfl, rfl⟩ | ⟨_, rfl⟩ <;> simp
theorem IsVec.deep (h : IsVec R v cs l) (hp : Nat → Option AObj) (d : Nat) : AM.deep hp (d + 1) v = some v := by rcases h.v with ⟨rfl, _⟩ | ⟨_, rfl⟩ <;> rfl
theorem IsVec.frz (h : IsVec R v cs l) (m : Mem) : frzV v m = some (v, m) := by rcases h.v with ⟨rfl, _⟩ | ⟨_, rfl⟩ <;> rfl
theorem IsVec.idx (h : IsVec R v cs l) {i : Nat} (hi : i < l.length) (k : IntKind) : idxSl 1 v (.int k (i : Int)) = some (.fptr (cs.drop i)) := by
  rcases h.v with ⟨rfl, rfl⟩ | ⟨_, rfl⟩
  · simp at hi
  · simp [hi]
theorem IsVec.load (h : IsVec R v cs l) {i : Nat} (hi : i < l.length) : loadF false 1 (.fptr (cs.drop i)) = some (cAt cs i) := cAt_load (by rw [h.n]; exact hi)
theorem IsVec.at (h : IsVec R v cs l) {i : Nat} (hi : i < l.length) : R (cAt cs i) (gth l i) := h.rel i hi
end
/-- The cells of a slice whose cells are lists of numbers of one form. -/
theorem vec_of {α : Type} [Inhabited α] {R : AV → α → Prop} {g : α → AV} (hg : ∀ a, R (g a) a) (hc : ∀ a, (g a).closed = true) (ex : Bool) (l : List α) : IsVec R (.fsl ex l.length (l.map g)) (l.map g) l := by
  refine ⟨by simp, fun i hi => ?_, ?_, .inr ⟨ex, rfl⟩⟩
  · have e := gth_eq hi
    have e2 := cAt_eq (cs := l.map g) (i := i) (by simpa using hi)
    rw [List.getElem?_map, e] at e2
    simp only [Option.map_some, Option.some.injEq] at e2
    rw [← e2]; exact hg _
  · induction l with
    | nil => rfl
    | cons a l ih => simp [hc a, ih]

/-! ### Bools -/
def boolC (b : Bool) : List AV := [.bool b]
theorem boolC_len (l : List Bool) : ∀ b ∈ l, (boolC b).length = 1 := fun _ _ => rfl
def bnth (l : List Bool) (i : Nat) : Bool := l.getD i false
theorem bnth_eq {l : List Bool} {i : Nat} (h : i < l.length) : l[i]? = some (bnth l i) := by
  rw [List.getElem?_eq_getElem h]; simp [bnth, List.getD, List.getElem?_eq_getElem h]
theorem bool_load {l : List Bool} {i : Nat} (h : i < l.length) : loadF false 1 (.fptr (flatC boolC (l.drop i))) = some (.bool (bnth l i)) := by
  rw [flatC_at (bnth_eq h)]; simp [boolC]
abbrev IsBools : AV → List Bool → Prop := IsSl boolC
end Go.AM
