/-
  THE REFERENCE's CLOCKS IN MEMORY (1): a row of single deeds. Conditions: none.
-/
import Derived.Test.YtdkmepjedjclkaaKSBefA
set_option linter.all false
namespace Go.Proofs.Ytdkmepjedjclkaa
open Go.AM
open Go.Proofs.Try (prog)
set_option linter.all false
set_option maxRecDepth 100000
set_option maxHeartbeats 4000000

/-- The first clock of a deed: of its hand alone. -/
def unitW (n h i : Nat) : List Int := (List.replicate n 0).set h ((i : Int) + 1)
def unitsW (n h k : Nat) : List (List Int) := (List.range k).map (unitW n h)
/-- A row as a slice. -/
def rowV (D : List Int) (rids : Nat → Nat) (h : Nat) : AV := .sl (rids h) 1 0 (nth D h).toNat (nth D h).toNat
def rowsV (D : List Int) (rids : Nat → Nat) (k : Nat) : List AV := (List.range k).map (rowV D rids)
end Go.Proofs.Ytdkmepjedjclkaa

/-
  THE REFERENCE's CLOCKS IN MEMORY (2): all rows. Conditions: none.
-/
namespace Go.Proofs.Ytdkmepjedjclkaa
open Go.AM
open Go.Proofs.Try (prog)
set_option linter.all false
set_option maxRecDepth 100000
set_option maxHeartbeats 4000000

/-- Some rows of clocks in memory. -/
structure CAt (m : Mem) (oid : Nat) (rids : Nat → Nat) (D : List Int) (C : List (List (List Int))) : Prop where
  o : m.h oid = some (.cells (rowsV D rids C.length))
  r : ∀ h, h < C.length → m.h (rids h) = some (.cells (flatC rowC (kth C h)))
  ol : oid < m.nx
  rl : ∀ h, h < C.length → rids h < m.nx
  ne : ∀ h, h < C.length → oid ≠ rids h
  inj : ∀ g h, g < C.length → h < C.length → rids g = rids h → g = h

def unitsC (D : List Int) (k : Nat) : List (List (List Int)) := (List.range k).map fun h => unitsW D.length h (nth D h).toNat
end Go.Proofs.Ytdkmepjedjclkaa

/-
  THE REFERENCE's CLOCKS IN MEMORY (3): at the outset. Conditions: none.
-/
namespace Go.Proofs.Ytdkmepjedjclkaa
open Go.AM
open Go.Proofs.Try (prog)
set_option linter.all false
set_option maxRecDepth 100000

end Go.Proofs.Ytdkmepjedjclkaa

/-
  THE REFERENCE's CLOCKS IN MEMORY (4): the rounds, as growth. Conditions: none.
-/
namespace Go.Proofs.Ytdkmepjedjclkaa
open Go.AM
open Go.Proofs.Try (prog)
set_option linter.all false
set_option maxRecDepth 100000
set_option maxHeartbeats 4000000

theorem updNe {h : Nat → Option AObj} {i j : Nat} {o : Option AObj} (e : j ≠ i) : upd h i o j = h j := by simp [upd, show (j == i) = false from beq_eq_false_iff_ne.2 e]
theorem flatC_row (R : List (List Int)) : flatC rowC R = R.map fun c => .fsl false c.length (ints c) := by
  induction R with
  | nil => rfl
  | cons a R ih => rw [flatC_cons, ih]; rfl
theorem flatC_row_set (R : List (List Int)) (i : Nat) (x : List Int) : (flatC rowC R).set i (.fsl false x.length (ints x)) = flatC rowC (R.set i x) := by
  rw [flatC_row, flatC_row, List.map_set]
theorem flatC_row_get {R : List (List Int)} {i : Nat} (hi : i < R.length) : (flatC rowC R)[i]? = some (.fsl false (cth R i).length (ints (cth R i))) := by
  rw [flatC_row, List.getElem?_map, cth_eq hi]; rfl
theorem flatC_row_len (R : List (List Int)) : (flatC rowC R).length = R.length := by rw [flatC_row]; simp
@[simp] theorem rowsV_getElem (D : List Int) (rids : Nat → Nat) {k h : Nat} (hh : h < (rowsV D rids k).length) : (rowsV D rids k)[h] = rowV D rids h := by simp [rowsV]
@[simp] theorem flatC_row_getElem {R : List (List Int)} {i : Nat} (hi : i < (flatC rowC R).length) : (flatC rowC R)[i] = .fsl false (cth R i).length (ints (cth R i)) := by
  have h := flatC_row_get (R := R) (i := i) (by rwa [flatC_row_len] at hi)
  rw [List.getElem?_eq_getElem hi] at h
  simpa using h

theorem kth_grow {C : List (List (List Int))} {h i : Nat} {c : List Int} (hh : h < C.length) (g : Nat) : kth (growK C h i c) g = if g = h then (kth C h).set i (zmax (cth (kth C h) i) c) else kth C g := by rw [growK, kth_set hh]
theorem growK_len {C : List (List (List Int))} {h i : Nat} {c : List Int} : (growK C h i c).length = C.length := by simp [growK]

theorem CAt.grow {m : Mem} {oid : Nat} {rids : Nat → Nat} {D : List Int} {C : List (List (List Int))} (k : CAt m oid rids D C) {h i n' : Nat} {c : List Int} (hh : h < C.length) (hn : m.nx ≤ n') :
    CAt ⟨upd m.h (rids h) (some (.cells ((flatC rowC (kth C h)).set i (.fsl false (zmax (cth (kth C h) i) c).length (ints (zmax (cth (kth C h) i) c)))))), n'⟩ oid rids D (growK C h i c) := by
  refine ⟨?_, fun g hg => ?_, Nat.lt_of_lt_of_le k.ol hn, fun g hg => ?_, fun g hg => ?_, fun g g' hg hg' e => ?_⟩
  · rw [growK_len]
    show upd m.h (rids h) _ oid = _
    rw [updNe (k.ne h hh)]; exact k.o
  · rw [growK_len] at hg
    rw [kth_grow hh, flatC_row_set]
    show upd m.h (rids h) _ (rids g) = _
    by_cases e : g = h
    · subst e; simp
    · rw [updNe (fun x => e (k.inj g h hg hh x)), if_neg e]; exact k.r g hg
  · rw [growK_len] at hg; exact Nat.lt_of_lt_of_le (k.rl g hg) hn
  · rw [growK_len] at hg; exact k.ne g hg
  · rw [growK_len] at hg hg'; exact k.inj g g' hg hg' e
theorem CAt.more {m : Mem} {oid : Nat} {rids : Nat → Nat} {D : List Int} {C : List (List (List Int))} (k : CAt m oid rids D C) {m' : Mem} (hm : ∀ id, id < m.nx → m'.h id = m.h id) (hn : m.nx ≤ m'.nx) : CAt m' oid rids D C :=
  ⟨by rw [hm _ k.ol]; exact k.o, fun h hh => by rw [hm _ (k.rl h hh)]; exact k.r h hh, Nat.lt_of_lt_of_le k.ol hn, fun h hh => Nat.lt_of_lt_of_le (k.rl h hh) hn, k.ne, k.inj⟩

/-- Some deeds have taken in what was before them. -/
structure Part (D : List Int) (N : List Note) (C C' : List (List (List Int))) (S : Nat → Nat → Prop) : Prop where
  inv : RInv D N C'
  ge : Ge C C'
  own : ∀ (h i : Nat), h < D.length → S h (i + 1) → (i : Int) + 1 < nth D h → ∀ q, kn C h i q ≤ kn C' h (i + 1) q
  note : ∀ x ∈ N, S x.t.toNat (x.r.toNat - 1) → ∀ q, kn C x.f.toNat (x.s.toNat - 1) q ≤ kn C' x.t.toNat (x.r.toNat - 1) q

section
variable {D : List Int} {N : List Note} {A B C : List (List (List Int))} {S T : Nat → Nat → Prop}
theorem Part.refl (I : RInv D N C) (h : ∀ g i, S g i → False) : Part D N C C S := ⟨I, Ge.refl C, fun g i _ s => (h _ _ s).elim, fun x _ s => (h _ _ s).elim⟩
theorem Part.trans {U : Nat → Nat → Prop} (a : Part D N A B S) (b : Part D N B C T) (h : ∀ g i, U g i → S g i ∨ T g i) : Part D N A C U := by
  refine ⟨b.inv, a.ge.trans b.ge, fun g i hg u hi q => ?_, fun x hx u q => ?_⟩
  · rcases h _ _ u with s | t
    · exact Int.le_trans (a.own g i hg s hi q) (b.ge _ _ q)
    · exact Int.le_trans (a.ge _ _ q) (b.own g i hg t hi q)
  · rcases h _ _ u with s | t
    · exact Int.le_trans (a.note x hx s q) (b.ge _ _ q)
    · exact Int.le_trans (a.ge _ _ q) (b.note x hx t q)
end

end Go.Proofs.Ytdkmepjedjclkaa

/-
  THE REFERENCE's CLOCKS IN MEMORY (5): a deed takes in what it receives. Conditions: none.
-/
namespace Go.Proofs.Ytdkmepjedjclkaa
open Go.AM
open Go.Proofs.Try (prog)
set_option linter.all false
set_option maxRecDepth 100000
set_option maxHeartbeats 4000000

end Go.Proofs.Ytdkmepjedjclkaa

/-
  THE REFERENCE's CLOCKS IN MEMORY (6): hands, rounds, and what is handed back. Conditions: none.
-/
namespace Go.Proofs.Ytdkmepjedjclkaa
open Go.AM
open Go.Proofs.Try (prog)
set_option linter.all false
set_option maxRecDepth 100000
set_option maxHeartbeats 4000000

/-- The clocks as a value. -/
def clkC (R : List (List Int)) : List AV := [.fsl false R.length (flatC rowC R)]
def clkV (C : List (List (List Int))) : AV := .fsl false C.length (flatC clkC C)

end Go.Proofs.Ytdkmepjedjclkaa
