/-
  watch.Clocks: ITS ROWS IN MEMORY. Conditions: none.
-/
import Derived.Test.YtdkmepjedjclkaaKTBefore
set_option linter.all false
namespace Go.Proofs.Ytdkmepjedjclkaa
open Go.AM
open Go.Proofs.Try (prog)
set_option linter.all false
set_option maxRecDepth 100000
set_option maxHeartbeats 4000000

theorem appV_full {size by' n : Nat} {ex : Bool} {cs : List AV} (h : size ≠ 0) (hl : cs.length = n * size) (hc : closedL cs = true) (hr : room n by' = true) (hn : n ≠ 0) :
    appV size by' (.fsl true 0 []) (.fsl ex n cs) = some (.fsl false n cs) := by
  have h' : (size == 0) = false := by simpa using h
  have hn' : (n == 0) = false := by simpa using hn
  have hr' := hr
  simp at hr'
  simp [appV, appF, h', hl, hn', hr', hc]
  simp [← hl]
theorem list_fix {v : AV} {n : Nat} {D : List Int} {K : List (List (List Int))} (s : IsStory v n D K) {c : List Int} (hc : c.length = 4) (m : Mem) :
    denC prog ann 63 [v, .agg (ints c)] m = some (.fsl false n (ints (c.take n)), m) := by
  obtain ⟨V, rfl, hV, _⟩ := s.V
  have hn := s.n4
  have hn1 := s.n1
  have he := appV_full (size := 1) (by' := 8) (n := n) (ex := n == 4) (cs := ints (c.take n)) (by simp) (by simp [hc]; omega) (by simp) (by simp [room]; omega) (by omega)
  have hcl : ∀ m, denC prog ann 98 [.fsl (n == 4) n (ints (c.take n))] m = some (.fsl false n (ints (c.take n)), m) := by
    intro m
    rw [slices_Clone_int.call_eq _ _ (by simp)]
    simp [nil22, he]
  rw [watch_story_list.call_eq _ _ _ (by simp)]
  have hn' : (n : Int) ≤ 4 := by omega
  simp [sliceArr, bnds, bnd, hc, hn', hcl]

/-- A row as a slice, or nothing. -/
def slR (ids : Nat → Nat) (R : List (List (List Int))) (g : Nat) : AV := if kth R g = [] then .nils else .sl (ids g) 1 0 (kth R g).length (kth R g).length
def outR (ids : Nat → Nat) (R : List (List (List Int))) (n : Nat) : List AV := (List.range n).map (slR ids R)
@[simp] theorem outR_getElem (ids : Nat → Nat) (R : List (List (List Int))) {n h : Nat} (hh : h < (outR ids R n).length) : (outR ids R n)[h] = slR ids R h := by simp [outR]

/-- The rows in memory. -/
structure WAt (m : Mem) (oid : Nat) (ids : Nat → Nat) (n : Nat) (R : List (List (List Int))) : Prop where
  o : m.h oid = some (.cells (outR ids R n))
  r : ∀ h, kth R h ≠ [] → m.h (ids h) = some (.cells (flatC rowC (kth R h)))
  ol : oid < m.nx
  rl : ∀ h, kth R h ≠ [] → ids h < m.nx
  ne : ∀ h, kth R h ≠ [] → oid ≠ ids h
  inj : ∀ g h, kth R g ≠ [] → kth R h ≠ [] → ids g = ids h → g = h

/-- A row grows. -/
def pushR (R : List (List (List Int))) (h : Nat) (x : List Int) : List (List (List Int)) := R.set h (kth R h ++ [x])
theorem kth_push {R : List (List (List Int))} {h : Nat} {x : List Int} (hh : h < R.length) (g : Nat) : kth (pushR R h x) g = if g = h then kth R h ++ [x] else kth R g := by rw [pushR, kth_set hh]

theorem outR_set {ids : Nat → Nat} {R : List (List (List Int))} {n h : Nat} {x : List Int} (hh : h < R.length) (hn : h < n) {ids' : Nat → Nat} (hi : ∀ g, g ≠ h → ids' g = ids g) :
    (outR ids R n).set h (.sl (ids' h) 1 0 ((kth R h).length + 1) ((kth R h).length + 1)) = outR ids' (pushR R h x) n := by
  refine List.ext_getElem (by simp [outR]) fun g h1 h2 => ?_
  rw [List.getElem_set]
  have hg : g < n := by simpa [outR] using h2
  by_cases e : h = g
  · subst e
    rw [if_pos rfl, outR_getElem]
    simp [slR, kth_push hh]
  · rw [if_neg e, outR_getElem, outR_getElem]
    have e' : ¬ g = h := fun x => e x.symm
    simp [slR, kth_push hh, e', hi g e']

theorem WAt.push {m m' : Mem} {oid : Nat} {ids : Nat → Nat} {n : Nat} {R : List (List (List Int))} (w : WAt m oid ids n R) {h : Nat} (hh : h < R.length) (hn : h < n) {x : List Int} {ids' : Nat → Nat} (hi : ∀ g, g ≠ h → ids' g = ids g)
    (h1 : m'.h oid = some (.cells ((outR ids R n).set h (.sl (ids' h) 1 0 ((kth R h).length + 1) ((kth R h).length + 1)))))
    (h2 : m'.h (ids' h) = some (.cells (flatC rowC (kth R h ++ [x]))))
    (h3 : ∀ id, id < m.nx → id ≠ oid → id ≠ ids' h → m'.h id = m.h id) (h4 : m.nx ≤ m'.nx) (h5 : ids' h < m'.nx) (h6 : oid ≠ ids' h) (h7 : ∀ g, g ≠ h → kth R g ≠ [] → ids g ≠ ids' h) : WAt m' oid ids' n (pushR R h x) := by
  refine ⟨by rw [h1, outR_set (ids' := ids') hh hn hi], fun g hg => ?_, Nat.lt_of_lt_of_le w.ol h4, fun g hg => ?_, fun g hg => ?_, fun g g' hg hg' e => ?_⟩
  · by_cases e : g = h
    · subst e; rw [kth_push hh, if_pos rfl]; exact h2
    · rw [kth_push hh, if_neg e] at hg ⊢
      rw [hi g e, h3 _ (w.rl g hg) (fun x => w.ne g hg x.symm) (h7 g e hg)]; exact w.r g hg
  · by_cases e : g = h
    · subst e; exact h5
    · rw [kth_push hh, if_neg e] at hg
      rw [hi g e]; exact Nat.lt_of_lt_of_le (w.rl g hg) h4
  · by_cases e : g = h
    · subst e; exact h6
    · rw [kth_push hh, if_neg e] at hg
      rw [hi g e]; exact w.ne g hg
  · by_cases e1 : g = h
    · by_cases e2 : g' = h
      · omega
      · rw [kth_push hh, if_neg e2] at hg'
        rw [e1, hi g' e2] at e; exact absurd e.symm (h7 g' e2 hg')
    · rw [kth_push hh, if_neg e1] at hg
      by_cases e2 : g' = h
      · rw [e2, hi g e1] at e; exact absurd e (h7 g e1 hg)
      · rw [kth_push hh, if_neg e2] at hg'
        rw [hi g e1, hi g' e2] at e; exact w.inj g g' hg hg' e

/-- What Clocks hands back of each hand: the clocks, cut to the number of hands. -/
def rowsN (K : List (List (List Int))) (n h : Nat) : List (List Int) := (kth K h).map fun c => c.take n
/-- The rows while they are built: those of the hands before h whole, of hand h the first i. -/
def partR (K : List (List (List Int))) (n h i : Nat) : List (List (List Int)) := (List.range n).map fun g => if g < h then rowsN K n g else if g = h then (rowsN K n g).take i else []
end Go.Proofs.Ytdkmepjedjclkaa
