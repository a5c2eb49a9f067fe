/-
  DATA IN THE ABSTRACT MACHINE: lists of numbers as cells. Conditions: none.
-/
import Derived.Test.YtdkmepjedjclkaaAmSimp
namespace Go.AM
set_option linter.all false

def ints (l : List Int) : List AV := l.map (.int .i64)
@[simp] theorem ints_nil : ints [] = [] := rfl
@[simp] theorem ints_cons (a : Int) (l : List Int) : ints (a :: l) = .int .i64 a :: ints l := rfl
@[simp] theorem ints_len (l : List Int) : (ints l).length = l.length := by simp [ints]
@[simp] theorem ints_append (a b : List Int) : ints a ++ ints b = ints (a ++ b) := by simp [ints]
@[simp] theorem ints_drop (l : List Int) (n : Nat) : (ints l).drop n = ints (l.drop n) := by simp [ints, List.map_drop]
@[simp] theorem ints_take (l : List Int) (n : Nat) : (ints l).take n = ints (l.take n) := by simp [ints, List.map_take]
@[simp] theorem ints_set (l : List Int) (n : Nat) (a : Int) : (ints l).set n (.int .i64 a) = ints (l.set n a) := by simp [ints, List.map_set]
@[simp] theorem ints_oneL (l : List Int) : oneL (ints l) = true := by induction l <;> simp [ints, oneL, AV.one] at *; assumption
@[simp] theorem ints_closedL (l : List Int) : closedL (ints l) = true := by induction l <;> simp [ints, closedL, AV.closed] at *; assumption
@[simp] theorem ints_get? (l : List Int) (i : Nat) : (ints l)[i]? = l[i]?.map (.int .i64) := by simp [ints]
/-- The number at a place. -/
def nth (l : List Int) (i : Nat) : Int := l.getD i 0
theorem nth_cons0 (a : Int) (l : List Int) : nth (a :: l) 0 = a := rfl
theorem nth_cons1 (a : Int) (l : List Int) (i : Nat) : nth (a :: l) (i + 1) = nth l i := rfl
theorem nth_eq {l : List Int} {i : Nat} (h : i < l.length) : l[i]? = some (nth l i) := by
  rw [List.getElem?_eq_getElem h]; simp [nth, List.getD, List.getElem?_eq_getElem h]
theorem nth_get {l : List Int} {i : Nat} (h : i < l.length) : l[i] = nth l i := by
  simp [nth, List.getD, List.getElem?_eq_getElem h]
theorem nth_out {l : List Int} {i : Nat} (h : l.length ≤ i) : nth l i = 0 := by
  simp [nth, List.getD, List.getElem?_eq_none h]
theorem drop_nth {l : List Int} {i : Nat} (h : i < l.length) : l.drop i = nth l i :: l.drop (i + 1) := by
  rw [List.drop_eq_getElem_cons h, nth_get h]
theorem ints_nth {l : List Int} {i : Nat} (h : i < l.length) : (ints l)[i]? = some (.int .i64 (nth l i)) := by
  rw [ints_get?, nth_eq h]; rfl
@[simp] theorem ints_getElem {l : List Int} {i : Nat} (h : i < (ints l).length) : (ints l)[i] = .int .i64 (nth l i) := by
  have h' : i < l.length := by simpa using h
  have := ints_nth h'
  rw [List.getElem?_eq_getElem h] at this
  simpa using this
theorem ints_head {l : List Int} {i : Nat} (h : i < l.length) : (ints (l.drop i)).head? = some (.int .i64 (nth l i)) := by
  rw [drop_nth h]; rfl

theorem oneL_append' (a b : List AV) : oneL (a ++ b) = (oneL a && oneL b) := by
  induction a with
  | nil => simp
  | cons x a ih => simp [ih, Bool.and_assoc]
theorem closedL_append' (a b : List AV) : closedL (a ++ b) = (closedL a && closedL b) := by
  induction a with
  | nil => simp
  | cons x a ih => simp [ih, Bool.and_assoc]
attribute [simp] oneL_append' closedL_append'

@[simp] theorem mapO_ints (h : Nat → Option AObj) (d : Nat) (l : List Int) : mapO (deep h (d + 1)) (ints l) = some (ints l) :=
  mapO_fix fun a ha => by
    simp only [ints, List.mem_map] at ha
    obtain ⟨n, _, rfl⟩ := ha
    rfl

/-- A slice of numbers. -/
def IsInts (v : AV) (l : List Int) : Prop := (v = .nils ∧ l = []) ∨ ∃ ex, v = .fsl ex l.length (ints l)
theorem IsInts.fsl (ex : Bool) (l : List Int) : IsInts (.fsl ex l.length (ints l)) l := .inr ⟨ex, rfl⟩
theorem IsInts.nils : IsInts .nils [] := .inl ⟨rfl, rfl⟩
theorem IsInts.closed {v : AV} {l : List Int} (h : IsInts v l) : v.closed = true := by rcases h with ⟨rfl, _⟩ | ⟨_, rfl⟩ <;> rfl
theorem IsInts.one {v : AV} {l : List Int} (h : IsInts v l) : v.one = true := by rcases h with ⟨rfl, _⟩ | ⟨_, rfl⟩ <;> rfl
theorem IsInts.cells {v : AV} {l : List Int} (h : IsInts v l) : v.cells = [v] := by rcases h with ⟨rfl, _⟩ | ⟨_, rfl⟩ <;> rfl
theorem IsInts.len {v : AV} {l : List Int} (h : IsInts v l) : lenSl v = some (.int .i64 l.length) := by rcases h with ⟨rfl, rfl⟩ | ⟨_, rfl⟩ <;> simp
theorem IsInts.deep {v : AV} {l : List Int} (h : IsInts v l) (hp : Nat → Option AObj) (d : Nat) : deep hp (d + 1) v = some v := by rcases h with ⟨rfl, _⟩ | ⟨_, rfl⟩ <;> rfl
theorem IsInts.idx {v : AV} {l : List Int} (h : IsInts v l) {i : Nat} (hi : i < l.length) (k : IntKind) : idxSl 1 v (.int k (i : Int)) = some (.fptr (ints (l.drop i))) := by
  rcases h with ⟨rfl, rfl⟩ | ⟨_, rfl⟩
  · simp at hi
  · simp [hi]
theorem IsInts.idxI {v : AV} {l : List Int} (h : IsInts v l) {j : Int} (h0 : 0 ≤ j) (hj : j < l.length) (k : IntKind) : idxSl 1 v (.int k j) = some (.fptr (ints (l.drop j.toNat))) := by
  obtain ⟨i, rfl⟩ : ∃ i : Nat, j = i := ⟨j.toNat, by omega⟩
  exact h.idx (by omega) k
theorem IsInts.src {v : AV} {l : List Int} (h : IsInts v l) (m : Mem) : srcA m 1 v = some (l.length, ints l) := by
  rcases h with ⟨rfl, rfl⟩ | ⟨_, rfl⟩ <;> simp

theorem ints_headI {l : List Int} {j : Int} (h0 : 0 ≤ j) (h : j < l.length) : (ints (l.drop j.toNat)).head? = some (.int .i64 (nth l j.toNat)) := ints_head (by omega)
/-- The head of a deep copy of an object of numbers. -/
theorem deep_ints {h : Nat → Option AObj} {id n : Nat} {l : List Int} (ho : h id = some (.cells (ints l))) (hl : l.length = n) (d : Nat) : deep h (d + 2) (.sl id 1 0 n n) = some (.fsl false n (ints l)) := by
  subst hl
  simp [ho]

/-! ### Slices of things of several cells -/
def flatC {α : Type} (f : α → List AV) (l : List α) : List AV := l.flatMap f
section
variable {α : Type} {f : α → List AV} {k : Nat}
@[simp] theorem flatC_nil : flatC f [] = [] := rfl
theorem flatC_cons (a : α) (l : List α) : flatC f (a :: l) = f a ++ flatC f l := rfl
theorem flatC_append (a b : List α) : flatC f (a ++ b) = flatC f a ++ flatC f b := by simp [flatC]
theorem flatC_one (a : α) : flatC f [a] = f a := by simp [flatC]
theorem flatC_len : ∀ {l : List α}, (∀ a ∈ l, (f a).length = k) → (flatC f l).length = l.length * k
  | [], _ => by simp
  | a :: l, h => by
    rw [flatC_cons, List.length_append, h a (by simp), flatC_len (l := l) (fun b hb => h b (by simp [hb])), List.length_cons, Nat.succ_mul]; omega
theorem flatC_drop : ∀ {l : List α} (i : Nat), (∀ a ∈ l, (f a).length = k) → (flatC f l).drop (i * k) = flatC f (l.drop i)
  | l, 0, _ => by simp
  | [], i + 1, _ => by simp
  | a :: l, i + 1, h => by
    rw [flatC_cons, Nat.succ_mul, Nat.add_comm, ← List.drop_drop, List.drop_left' (h a (by simp)), flatC_drop i (fun b hb => h b (by simp [hb]))]; rfl
theorem flatC_take : ∀ {l : List α} (i : Nat), (∀ a ∈ l, (f a).length = k) → (flatC f l).take (i * k) = flatC f (l.take i)
  | l, 0, _ => by simp
  | [], i + 1, _ => by simp
  | a :: l, i + 1, h => by
    rw [flatC_cons, Nat.succ_mul, Nat.add_comm, List.take_add, List.take_left' (h a (by simp)), List.drop_left' (h a (by simp)), flatC_take i (fun b hb => h b (by simp [hb]))]; rfl
theorem flatC_at {l : List α} {i : Nat} {a : α} (hi : l[i]? = some a) : flatC f (l.drop i) = f a ++ flatC f (l.drop (i + 1)) := by
  obtain ⟨h1, rfl⟩ := List.getElem?_eq_some_iff.1 hi
  rw [List.drop_eq_getElem_cons h1, flatC_cons]
theorem flatC_oneL (h : ∀ a : α, oneL (f a) = true) : ∀ l : List α, oneL (flatC f l) = true
  | [] => rfl
  | a :: l => by rw [flatC_cons]; simp [h a, flatC_oneL h l]
theorem flatC_closedL (h : ∀ a : α, closedL (f a) = true) : ∀ l : List α, closedL (flatC f l) = true
  | [] => rfl
  | a :: l => by rw [flatC_cons]; simp [h a, flatC_closedL h l]
theorem flatC_deep (hp : Nat → Option AObj) (d : Nat) (h : ∀ a : α, mapO (deep hp (d + 1)) (f a) = some (f a)) : ∀ l : List α, mapO (deep hp (d + 1)) (flatC f l) = some (flatC f l)
  | [] => rfl
  | a :: l => by rw [flatC_cons, mapO_append, h a, flatC_deep hp d h l]; rfl
theorem flatC_set {l : List α} {i : Nat} {a : α} (h : ∀ b ∈ l, (f b).length = k) (ha : (f a).length = k) (hi : i < l.length) : splice (flatC f l) (i * k) (f a) = flatC f (l.set i a) := by
  unfold splice
  rw [flatC_take i h, ha, show i * k + k = (i + 1) * k by rw [Nat.succ_mul], flatC_drop (i + 1) h]
  rw [List.set_eq_take_append_cons_drop, if_pos hi, flatC_append, flatC_cons, List.append_assoc]

/-- A slice of such things. -/
def IsSl (f : α → List AV) (v : AV) (l : List α) : Prop := (v = .nils ∧ l = []) ∨ ∃ ex, v = .fsl ex l.length (flatC f l)
theorem IsSl.fsl (ex : Bool) (l : List α) : IsSl f (.fsl ex l.length (flatC f l)) l := .inr ⟨ex, rfl⟩
theorem IsSl.nils : IsSl f .nils [] := .inl ⟨rfl, rfl⟩
theorem IsSl.closed {v : AV} {l : List α} (h : IsSl f v l) : v.closed = true := by rcases h with ⟨rfl, _⟩ | ⟨_, rfl⟩ <;> rfl
theorem IsSl.one {v : AV} {l : List α} (h : IsSl f v l) : v.one = true := by rcases h with ⟨rfl, _⟩ | ⟨_, rfl⟩ <;> rfl
theorem IsSl.cells {v : AV} {l : List α} (h : IsSl f v l) : v.cells = [v] := by rcases h with ⟨rfl, _⟩ | ⟨_, rfl⟩ <;> rfl
theorem IsSl.len {v : AV} {l : List α} (h : IsSl f v l) : lenSl v = some (.int .i64 l.length) := by rcases h with ⟨rfl, rfl⟩ | ⟨_, rfl⟩ <;> simp
theorem IsSl.deep {v : AV} {l : List α} (h : IsSl f v l) (hp : Nat → Option AObj) (d : Nat) : AM.deep hp (d + 1) v = some v := by rcases h with ⟨rfl, _⟩ | ⟨_, rfl⟩ <;> rfl
theorem IsSl.idx {v : AV} {l : List α} (h : IsSl f v l) (hk : ∀ a ∈ l, (f a).length = k) {i : Nat} (hi : i < l.length) (kd : IntKind) : idxSl k v (.int kd (i : Int)) = some (.fptr (flatC f (l.drop i))) := by
  rcases h with ⟨rfl, rfl⟩ | ⟨_, rfl⟩
  · simp at hi
  · simp [hi, flatC_drop i hk]
theorem IsSl.src {v : AV} {l : List α} (h : IsSl f v l) (hk : ∀ a ∈ l, (f a).length = k) (m : Mem) : srcA m k v = some (l.length, flatC f l) := by
  rcases h with ⟨rfl, rfl⟩ | ⟨_, rfl⟩
  · simp
  · simp [flatC_len hk]
theorem IsSl.ofNils {v : AV} {l : List α} (h : IsSl f v l) : v = .nils ∨ ∃ ex, v = .fsl ex l.length (flatC f l) := by rcases h with ⟨rfl, _⟩ | ⟨ex, rfl⟩; exact .inl rfl; exact .inr ⟨ex, rfl⟩
end
theorem load_ints {l : List Int} {r : List AV} {n : Nat} (h : l.length = n) : loadF true n (.fptr (ints l ++ r)) = some (.agg (ints l)) := by
  have : (ints l ++ r).take n = ints l := List.take_left' (by simp [h])
  simp only [loadF_fptr, cond_true, this, ble_dec, List.length_append, ints_len, h]
  simp
/-- The thing at a place. -/
def cth (l : List (List Int)) (i : Nat) : List Int := l.getD i []
theorem cth_eq {l : List (List Int)} {i : Nat} (h : i < l.length) : l[i]? = some (cth l i) := by
  rw [List.getElem?_eq_getElem h]; simp [cth, List.getD, List.getElem?_eq_getElem h]
theorem cth_mem {l : List (List Int)} {i : Nat} (h : i < l.length) : cth l i ∈ l := List.mem_of_getElem? (cth_eq h)
/-- Cuts: lists of four numbers. -/
def Four (l : List (List Int)) : Prop := ∀ c ∈ l, c.length = 4
theorem Four.cells {l : List (List Int)} (h : Four l) : ∀ c ∈ l, (ints c).length = 4 := fun c hc => by simp [h c hc]
theorem load_cut {l : List (List Int)} (hl : Four l) {i : Nat} (hi : i < l.length) : loadF true 4 (.fptr (flatC ints (l.drop i))) = some (.agg (ints (cth l i))) := by
  rw [flatC_at (cth_eq hi)]; exact load_ints (hl _ (cth_mem hi))

@[simp] theorem nat_neg (n : Nat) : ((n : Int) < 0) = False := by simp

/-! ### Numbers that fit -/
@[simp] theorem wrap_id {x : Int} (h1 : -9223372036854775808 ≤ x) (h2 : x < 9223372036854775808) : IntKind.wrap .i64 x = x := by
  simp [IntKind.wrap, IntKind.min, IntKind.max, IntKind.signed, IntKind.bits]
  omega
end Go.AM
