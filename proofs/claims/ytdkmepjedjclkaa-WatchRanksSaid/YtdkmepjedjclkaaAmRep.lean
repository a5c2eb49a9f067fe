/-
  THE ABSTRACT MACHINE: what an abstract value stands for in a world, and that it stands for it as long as the memory that is no longer written stays. Conditions: none.
-/
import Derived.Test.YtdkmepjedjclkaaAmRun
namespace Go.AM

abbrev Pl := Nat → Nat → Option (Nat × Nat × Nat)
def P0 : Pl := fun _ _ => none

def CellsAt (w : World) (b off : Nat) (vs : List Value) : Prop := ∀ j v, vs[j]? = some v → w.cell? ⟨b, off + j, none⟩ = some v
def One (vs : List Value) : Prop := ∀ v ∈ vs, v.oneCell' = true

mutual
/-- The value v stands for the abstract value, in the world w; N: the blocks that are no longer written; i: where an object of a number and a length lies (block, place, size of the block). -/
def Rep (w : World) (N : Nat → Prop) : Pl → AV → Value → Prop
  | _, .undef, _ => True
  | _, .bool b, v => v = .bool b
  | _, .int k n, v => v = .int k n
  | _, .str s, v => v = .string ⟨s.toArray⟩
  | _, .nilp, v => v = .pointer none
  | i, .ptr id off top, v => ∃ b o c, i id top = some (b, o, c) ∧ v = .pointer (some ⟨b, o + off, none⟩)
  | _, .fptr cells, v => ∃ b off vs, N b ∧ v = .pointer (some ⟨b, off, none⟩) ∧ CellsAt w b off vs ∧ One vs ∧ RepL w N P0 cells vs
  | i, .sptr cells, v => ∃ b off vs, N b ∧ v = .pointer (some ⟨b, off, none⟩) ∧ CellsAt w b off vs ∧ One vs ∧ RepL w N i cells vs
  | _, .nils, v => v = .slice none 0 0
  | i, .sl id es off n top, v => ∃ b o c off' cap, i id top = some (b, o, c) ∧ v = .slice (some ⟨b, off', none⟩) n cap ∧ (cap ≠ 0 → off' = o + off) ∧ n ≤ cap ∧ o + off + cap * es ≤ c
  | _, .fsl ex n cells, v => ∃ a cap vs, v = .slice (some a) n cap ∧ n ≤ cap ∧ (ex = true → cap = n) ∧ ((n = 0 ∧ vs = []) ∨ ∃ b off, a = ⟨b, off, none⟩ ∧ N b ∧ CellsAt w b off vs) ∧ One vs ∧ RepL w N P0 cells vs
  | _, .nilm, v => v = .map none
  | i, .map id, v => ∃ b o c, i id 0 = some (b, o, c) ∧ v = .map (some b)
  | _, .fmap ks vs, v => ∃ b es clock, N b ∧ v = .map (some b) ∧ w.heap[b]? = some (.map es clock) ∧ RepL w N P0 ks (es.toList.map (·.key)) ∧ RepL w N P0 vs (es.toList.map (·.val))
  | i, .fn f first caps, v => ∃ fs cs, v = .func (.func f) fs cs ∧ RepL w N i first fs.toList ∧ RepL w N i caps cs.toList
  | _, .nilf, v => v = .nilFunc
  | i, .iface t a, v => ∃ u, v = .iface t u ∧ Rep w N i a u
  | _, .nili, v => v = .nilIface
  | i, .agg cs, v => ∃ vs, v = .agg vs ∧ RepL w N i cs vs.toList
  | i, .tup cs, v => ∃ vs, v = .tuple vs ∧ RepL w N i cs vs.toList
  | i, .iter id, v => ∃ b o c, i id 0 = some (b, o, c) ∧ v = .pointer (some ⟨b, 0, none⟩)
def RepL (w : World) (N : Nat → Prop) : Pl → List AV → List Value → Prop
  | _, [], vs => vs = []
  | i, a :: as, vs => ∃ v r, vs = v :: r ∧ Rep w N i a v ∧ RepL w N i as r
end

/-- What came before still stands. -/
structure Le (w : World) (N : Nat → Prop) (i : Pl) (w' : World) (N' : Nat → Prop) (i' : Pl) : Prop where
  hN : ∀ b, N b → N' b
  hw : ∀ b, N b → w'.heap[b]? = w.heap[b]?
  hi : ∀ id top x, i id top = some x → i' id top = some x

theorem cell?_congr {w w' : World} {b off : Nat} (h : w'.heap[b]? = w.heap[b]?) : w'.cell? ⟨b, off, none⟩ = w.cell? ⟨b, off, none⟩ := by
  simp [World.cell?, h]

theorem CellsAt.congr {w w' : World} {b off : Nat} {vs : List Value} (hh : w'.heap[b]? = w.heap[b]?) (h : CellsAt w b off vs) : CellsAt w' b off vs :=
  fun j v hj => by rw [cell?_congr hh]; exact h j v hj

theorem Le.p0 {w : World} {N : Nat → Prop} {i : Pl} {w' : World} {N' : Nat → Prop} {i' : Pl} (h : Le w N i w' N' i') : Le w N P0 w' N' P0 :=
  ⟨h.hN, h.hw, fun _ _ _ h => h⟩

mutual
theorem Rep.mono {w : World} {N : Nat → Prop} {w' : World} {N' : Nat → Prop} : ∀ {i i' : Pl} (_ : Le w N i w' N' i') (a : AV) {v : Value}, Rep w N i a v → Rep w' N' i' a v
  | _, _, _, .undef, _, _ => trivial
  | _, _, _, .bool _, _, h => h
  | _, _, _, .int _ _, _, h => h
  | _, _, _, .str _, _, h => h
  | _, _, _, .nilp, _, h => h
  | _, _, l, .ptr id off top, _, ⟨b, o, c, h1, h2⟩ => ⟨b, o, c, l.hi _ _ _ h1, h2⟩
  | _, _, l, .fptr cells, _, ⟨b, off, vs, h1, h2, h3, h4, h5⟩ => ⟨b, off, vs, l.hN _ h1, h2, h3.congr (l.hw _ h1), h4, RepL.mono l.p0 cells h5⟩
  | _, _, l, .sptr cells, _, ⟨b, off, vs, h1, h2, h3, h4, h5⟩ => ⟨b, off, vs, l.hN _ h1, h2, h3.congr (l.hw _ h1), h4, RepL.mono l cells h5⟩
  | _, _, _, .nils, _, h => h
  | _, _, l, .sl .., _, ⟨b, o, c, off', cap, h1, h2⟩ => ⟨b, o, c, off', cap, l.hi _ _ _ h1, h2⟩
  | _, _, l, .fsl _ _ cells, _, ⟨a, cap, vs, h1, h2, h3, h4, h5, h6⟩ => ⟨a, cap, vs, h1, h2, h3, h4.imp id (fun ⟨b, off, k1, k2, k3⟩ => ⟨b, off, k1, l.hN _ k2, k3.congr (l.hw _ k2)⟩), h5, RepL.mono l.p0 cells h6⟩
  | _, _, _, .nilm, _, h => h
  | _, _, l, .map _, _, ⟨b, o, c, h1, h2⟩ => ⟨b, o, c, l.hi _ _ _ h1, h2⟩
  | _, _, l, .fmap ks vs, _, ⟨b, es, clock, h1, h2, h3, h4, h5⟩ => ⟨b, es, clock, l.hN _ h1, h2, (l.hw _ h1).trans h3, RepL.mono l.p0 ks h4, RepL.mono l.p0 vs h5⟩
  | _, _, l, .fn _ first caps, _, ⟨fs, cs, h1, h2, h3⟩ => ⟨fs, cs, h1, RepL.mono l first h2, RepL.mono l caps h3⟩
  | _, _, _, .nilf, _, h => h
  | _, _, l, .iface _ a, _, ⟨u, h1, h2⟩ => ⟨u, h1, Rep.mono l a h2⟩
  | _, _, _, .nili, _, h => h
  | _, _, l, .agg cs, _, ⟨vs, h1, h2⟩ => ⟨vs, h1, RepL.mono l cs h2⟩
  | _, _, l, .tup cs, _, ⟨vs, h1, h2⟩ => ⟨vs, h1, RepL.mono l cs h2⟩
  | _, _, l, .iter _, _, ⟨b, o, c, h1, h2⟩ => ⟨b, o, c, l.hi _ _ _ h1, h2⟩
theorem RepL.mono {w : World} {N : Nat → Prop} {w' : World} {N' : Nat → Prop} : ∀ {i i' : Pl} (_ : Le w N i w' N' i') (as : List AV) {vs : List Value}, RepL w N i as vs → RepL w' N' i' as vs
  | _, _, _, [], _, h => h
  | _, _, l, a :: as, _, ⟨v, r, h1, h2, h3⟩ => ⟨v, r, h1, Rep.mono l a h2, RepL.mono l as h3⟩
end

mutual
/-- What names no object does not hang on where the objects lie. -/
theorem Rep.closed {w : World} {N : Nat → Prop} {i i' : Pl} : ∀ (a : AV) {v : Value}, a.closed = true → Rep w N i a v → Rep w N i' a v
  | .undef, _, _, _ => trivial
  | .bool _, _, _, h => h
  | .int _ _, _, _, h => h
  | .str _, _, _, h => h
  | .nilp, _, _, h => h
  | .ptr .., _, c, _ => by simp [AV.closed] at c
  | .fptr _, _, _, h => h
  | .sptr _, _, c, _ => by simp [AV.closed] at c
  | .nils, _, _, h => h
  | .sl .., _, c, _ => by simp [AV.closed] at c
  | .fsl .., _, _, h => h
  | .nilm, _, _, h => h
  | .map _, _, c, _ => by simp [AV.closed] at c
  | .fmap .., _, _, h => h
  | .fn _ first caps, _, c, ⟨fs, cs, h1, h2, h3⟩ => by
    simp [AV.closed] at c
    exact ⟨fs, cs, h1, RepL.closed first c.1 h2, RepL.closed caps c.2 h3⟩
  | .nilf, _, _, h => h
  | .iface _ a, _, c, ⟨u, h1, h2⟩ => ⟨u, h1, Rep.closed a (by simpa [AV.closed] using c) h2⟩
  | .nili, _, _, h => h
  | .agg cs, _, c, ⟨vs, h1, h2⟩ => ⟨vs, h1, RepL.closed cs (by simpa [AV.closed] using c) h2⟩
  | .tup cs, _, c, ⟨vs, h1, h2⟩ => ⟨vs, h1, RepL.closed cs (by simpa [AV.closed] using c) h2⟩
  | .iter _, _, c, _ => by simp [AV.closed] at c
theorem RepL.closed {w : World} {N : Nat → Prop} {i i' : Pl} : ∀ (as : List AV) {vs : List Value}, closedL as = true → RepL w N i as vs → RepL w N i' as vs
  | [], _, _, h => h
  | a :: as, _, c, ⟨v, r, h1, h2, h3⟩ => by
    simp [closedL] at c
    exact ⟨v, r, h1, Rep.closed a c.1 h2, RepL.closed as c.2 h3⟩
end

theorem Rep.one {w : World} {N : Nat → Prop} {i : Pl} {a : AV} {v : Value} (h1 : a.one = true) (h : Rep w N i a v) : v.oneCell' = true := by
  cases a <;> simp [AV.one] at h1 <;> simp only [Rep] at h
  all_goals first
    | (subst h; rfl)
    | (obtain ⟨b, o, c, _, rfl⟩ := h; rfl)
    | (obtain ⟨b, off, vs, _, rfl, _⟩ := h; rfl)
    | (obtain ⟨b, o, c, off', cap, _, rfl, _⟩ := h; rfl)
    | (obtain ⟨a, cap, vs, rfl, _⟩ := h; rfl)
    | (obtain ⟨b, es, clock, _, rfl, _⟩ := h; rfl)
    | (obtain ⟨fs, cs, rfl, _⟩ := h; rfl)
    | (obtain ⟨u, rfl, _⟩ := h; rfl)

theorem RepL.oneL {w : World} {N : Nat → Prop} {i : Pl} : ∀ {as : List AV} {vs : List Value}, oneL as = true → RepL w N i as vs → One vs
  | [], _, _, h => by cases h; exact fun _ h => by cases h
  | a :: as, _, c, ⟨v, r, h1, h2, h3⟩ => by
    simp [AM.oneL] at c
    subst h1
    intro u hu
    rcases List.mem_cons.1 hu with rfl | hu
    · exact Rep.one c.1 h2
    · exact RepL.oneL c.2 h3 u hu

/-! ### Lists -/
theorem RepL.length {w : World} {N : Nat → Prop} {i : Pl} : ∀ {as : List AV} {vs : List Value}, RepL w N i as vs → vs.length = as.length
  | [], _, h => by cases h; rfl
  | a :: as, _, ⟨v, r, h1, h2, h3⟩ => by subst h1; simp [RepL.length h3]

theorem RepL.get {w : World} {N : Nat → Prop} {i : Pl} : ∀ {as : List AV} {vs : List Value}, RepL w N i as vs → ∀ {j : Nat} {a : AV}, as[j]? = some a → ∃ v, vs[j]? = some v ∧ Rep w N i a v
  | [], _, _, _, _, hj => by simp at hj
  | a :: as, _, ⟨v, r, h1, h2, h3⟩, 0, _, hj => by simp at hj; subst hj h1; exact ⟨v, rfl, h2⟩
  | a :: as, _, ⟨v, r, h1, h2, h3⟩, j + 1, _, hj => by subst h1; simpa using RepL.get h3 (by simpa using hj)

theorem RepL.append {w : World} {N : Nat → Prop} {i : Pl} : ∀ {as bs : List AV} {vs us : List Value}, RepL w N i as vs → RepL w N i bs us → RepL w N i (as ++ bs) (vs ++ us)
  | [], _, _, _, h, k => by cases h; exact k
  | a :: as, _, _, _, ⟨v, r, h1, h2, h3⟩, k => by subst h1; exact ⟨v, _, rfl, h2, RepL.append h3 k⟩

theorem RepL.drop {w : World} {N : Nat → Prop} {i : Pl} : ∀ {as : List AV} {vs : List Value} (n : Nat), RepL w N i as vs → RepL w N i (as.drop n) (vs.drop n)
  | _, _, 0, h => h
  | [], _, n + 1, h => by cases h; rfl
  | a :: as, _, n + 1, ⟨v, r, h1, h2, h3⟩ => by subst h1; simpa using RepL.drop n h3

theorem RepL.take {w : World} {N : Nat → Prop} {i : Pl} : ∀ {as : List AV} {vs : List Value} (n : Nat), RepL w N i as vs → RepL w N i (as.take n) (vs.take n)
  | _, _, 0, _ => by simp [RepL]
  | [], _, n + 1, h => by cases h; rfl
  | a :: as, _, n + 1, ⟨v, r, h1, h2, h3⟩ => by subst h1; exact ⟨v, _, rfl, h2, RepL.take n h3⟩

theorem RepL.set {w : World} {N : Nat → Prop} {i : Pl} : ∀ {as : List AV} {vs : List Value} (n : Nat) {a : AV} {v : Value}, RepL w N i as vs → Rep w N i a v → RepL w N i (as.set n a) (vs.set n v)
  | [], _, _, _, _, h, _ => by cases h; rfl
  | _ :: as, _, 0, _, v', ⟨v, r, h1, h2, h3⟩, k => by subst h1; exact ⟨v', r, rfl, k, h3⟩
  | _ :: as, _, n + 1, _, _, ⟨v, r, h1, h2, h3⟩, k => by subst h1; exact ⟨v, _, rfl, h2, RepL.set n h3 k⟩

theorem RepL.eraseIdx {w : World} {N : Nat → Prop} {i : Pl} : ∀ {as : List AV} {vs : List Value} (n : Nat), RepL w N i as vs → RepL w N i (as.eraseIdx n) (vs.eraseIdx n)
  | [], _, _, h => by cases h; rfl
  | _ :: as, _, 0, ⟨v, r, h1, h2, h3⟩ => by subst h1; exact h3
  | _ :: as, _, n + 1, ⟨v, r, h1, h2, h3⟩ => by subst h1; exact ⟨v, _, rfl, h2, RepL.eraseIdx n h3⟩

theorem RepL.nil {w : World} {N : Nat → Prop} {i : Pl} : RepL w N i [] [] := rfl
theorem RepL.cons {w : World} {N : Nat → Prop} {i : Pl} {a : AV} {as : List AV} {v : Value} {vs : List Value} (h : Rep w N i a v) (k : RepL w N i as vs) : RepL w N i (a :: as) (v :: vs) := ⟨v, vs, rfl, h, k⟩

theorem CellsAt.drop {w : World} {b off : Nat} {vs : List Value} (h : CellsAt w b off vs) (n : Nat) : CellsAt w b (off + n) (vs.drop n) := by
  intro j v hj
  rw [List.getElem?_drop] at hj
  have := h (n + j) v hj
  rwa [← Nat.add_assoc] at this

theorem CellsAt.take {w : World} {b off : Nat} {vs : List Value} (h : CellsAt w b off vs) (n : Nat) : CellsAt w b off (vs.take n) := by
  intro j v hj
  rw [List.getElem?_take] at hj
  split at hj
  · exact h j v hj
  · cases hj

theorem One.drop {vs : List Value} (h : One vs) (n : Nat) : One (vs.drop n) := fun v hv => h v (List.mem_of_mem_drop hv)
theorem One.take {vs : List Value} (h : One vs) (n : Nat) : One (vs.take n) := fun v hv => h v (List.mem_of_mem_take hv)
theorem One.append {vs us : List Value} (h : One vs) (k : One us) : One (vs ++ us) := fun v hv => (List.mem_append.1 hv).elim (h v) (k v)
end Go.AM
