/-
  THE REFERENCE's CLOCKS IN MEMORY (1): a row of single deeds. Conditions: none.
-/
import Derived.Test.YtdkmepjedjclkaaKSBefA
set_option linter.all false
namespace Go.Proofs.Ytdkmepjedjclkaa
open Go.AM
open Go.Proofs.Try (prog)
set_option linter.all false
set_option maxRecDepth 100000
set_option maxHeartbeats 4000000

/-- The first clock of a deed: of its hand alone. -/
def unitW (n h i : Nat) : List Int := (List.replicate n 0).set h ((i : Int) + 1)
def unitsW (n h k : Nat) : List (List Int) := (List.range k).map (unitW n h)
theorem unitsW_succ (n h k : Nat) : unitsW n h (k + 1) = unitsW n h k ++ [unitW n h k] := by simp [unitsW, List.range_succ]

/-- A row as a slice. -/
def rowV (D : List Int) (rids : Nat → Nat) (h : Nat) : AV := .sl (rids h) 1 0 (nth D h).toNat (nth D h).toNat
def rowsV (D : List Int) (rids : Nat → Nat) (k : Nat) : List AV := (List.range k).map (rowV D rids)
theorem rowsV_succ (D : List Int) (rids : Nat → Nat) (k : Nat) : rowsV D rids (k + 1) = rowsV D rids k ++ [rowV D rids k] := by simp [rowsV, List.range_succ]

theorem row_loop {vD vN : AV} {D : List Int} (hD : IsInts vD D) (h4 : D.length ≤ 4) (hi : ∀ i, nth D i ≤ 6) {h : Nat} (hh : h < D.length) {oid : Nat} {rids : Nat → Nat} (Kc : List Item) : ∀ (k j : Nat) (m : Mem), (j : Int) + k = nth D h → m.h (rids h) = some (.cells (flatC rowC (unitsW D.length h j))) → m.h oid = some (.cells (rowsV D rids h)) → rids h < m.nx → oid < m.nx → oid ≠ rids h →
    ∃ m' : Mem, m'.h (rids h) = some (.cells (flatC rowC (unitsW D.length h (nth D h).toNat))) ∧ m'.h oid = some (.cells (rowsV D rids (h + 1))) ∧ m.nx ≤ m'.nx ∧ (∀ id, id < m.nx → id ≠ rids h → id ≠ oid → m'.h id = m.h id) ∧
      r09_Clocks.L2 (.fptr [vD, vN]) (.sl oid 1 0 h h) (.int .i64 h) (.sl (rids h) 1 0 j j) (.int .i64 ((j : Int) + 1)) m (.code r09_Clocks.r12 :: .inBlock 1 :: .code r09_Clocks.r4 :: .inLoop r09_Clocks.l0 :: .inBlock 0 :: Kc) = r09_Clocks.L0 (.fptr [vD, vN]) (.sl oid 1 0 (h + 1) (h + 1)) (.int .i64 ((h : Int) + 1)) m' Kc := by
  intro k
  induction k with
  | zero =>
    intro j m h1 h2 h3 h4' h5 h6
    have e : nth D h = j := by omega
    have hn : ¬ ((j : Int) + 1 ≤ (j : Int)) := by omega
    have hw : IntKind.wrap .i64 ((h : Int) + 1) = (h : Int) + 1 := wrap_id (by omega) (by omega)
    have hro : (rowsV D rids h).length = h := by simp [rowsV]
    have e1 : (oid == m.nx) = false := beq_eq_false_iff_ne.2 (by omega)
    have hro' : (rowsV D rids (h + 1)).length = h + 1 := by simp [rowsV]
    have e2 : (rids h == m.nx) = false := beq_eq_false_iff_ne.2 (by omega)
    have e3 : (rids h == oid) = false := beq_eq_false_iff_ne.2 (fun x => h6 x.symm)
    have hr : rowsV D rids h ++ [.sl (rids h) 1 0 j j] = rowsV D rids (h + 1) := by rw [rowsV_succ, rowV, e]; rfl
    refine ⟨⟨upd (upd m.h m.nx (some (.cells [.sl (rids h) 1 0 j j]))) oid (some (.cells (rowsV D rids (h + 1)))), m.nx + 1⟩, by rw [e]; simpa [e2, e3] using h2, by simp, by simp, fun id a b c => by simp [show (id == m.nx) = false from beq_eq_false_iff_ne.2 (by omega), show (id == oid) = false from beq_eq_false_iff_ne.2 c], ?_⟩
    rw [r09_Clocks.L2_eq]
    simp [hD.idx hh, ints_head hh, e, hn, h3, hro, hro', e1, hr, hw, show h ≤ 4611686018427387903 by omega, show (h + 1) * 24 ≤ 70368744177664 by omega]
    done
  | succ k ih =>
    intro j m h1 h2 h3 h4' h5 h6
    have h6D := hi h
    have hle : (j : Int) + 1 ≤ nth D h := by omega
    have hw1 : IntKind.wrap .i64 ((j : Int) + 1 + 1) = (j : Int) + 1 + 1 := wrap_id (by omega) (by omega)
    have hlenU : (unitsW D.length h j).length = j := by simp [unitsW]
    have hfl : (flatC rowC (unitsW D.length h j)).length = j := by have := flatC_len (k := 1) (rowC_len (unitsW D.length h j)); omega
    have e1 : (rids h == m.nx) = false := beq_eq_false_iff_ne.2 (by omega)
    have e2 : (m.nx == rids h) = false := beq_eq_false_iff_ne.2 (by omega)
    have hUl : (unitW D.length h j).length = D.length := by simp [unitW]
    have hr : flatC rowC (unitsW D.length h j) ++ [.fsl false D.length (ints (unitW D.length h j))] = flatC rowC (unitsW D.length h (j + 1)) := by rw [unitsW_succ, flatC_append, flatC_one]; simp [rowC, hUl]
    obtain ⟨m', i1, i2, i3, i4, i5⟩ := ih (j + 1) ⟨upd (upd m.h m.nx none) (rids h) (some (.cells (flatC rowC (unitsW D.length h (j + 1))))), m.nx + 1⟩ (by omega) (by simp) (by simp [show (oid == m.nx) = false from beq_eq_false_iff_ne.2 (by omega), show (oid == rids h) = false from beq_eq_false_iff_ne.2 h6]; exact h3) (by show rids h < m.nx + 1; omega) (by show oid < m.nx + 1; omega) h6
    refine ⟨m', i1, i2, by have : m.nx + 1 ≤ m'.nx := i3; omega, fun id a b c => ?_, ?_⟩
    · rw [i4 id (by show id < m.nx + 1; omega) b c]
      simp [show (id == m.nx) = false from beq_eq_false_iff_ne.2 (by omega), show (id == rids h) = false from beq_eq_false_iff_ne.2 b]
    · simp only [Int.natCast_add, Int.cast_ofNat_Int] at i5
      rw [← i5, r09_Clocks.L2_eq]
      have hfl2 : (flatC rowC (unitsW D.length h (j + 1))).length = j + 1 := by have := flatC_len (k := 1) (rowC_len (unitsW D.length h (j + 1))); simp [unitsW] at this ⊢; omega
      have hrep : List.replicate D.length (AV.int .i64 0) = ints (List.replicate D.length 0) := by simp [ints]
      have hset : (List.replicate D.length 0).set h ((j : Int) + 1) = unitW D.length h j := rfl
      have htk : (ints (unitW D.length h j)).take D.length = ints (unitW D.length h j) := List.take_of_length_le (by simp [hUl])
      simp at htk
      simp [hD.idx hh, ints_head hh, hle, hD.len, hh, h2, hfl, e1, e2, hw1, hrep, hset, hUl, htk, hr, hfl2, show D.length ≤ 4611686018427387904 by omega, show D.length * 8 ≤ 70368744177664 by omega, show j ≤ 4611686018427387903 by omega, show (j + 1) * 24 ≤ 70368744177664 by omega]
      done
end Go.Proofs.Ytdkmepjedjclkaa

/-
  THE REFERENCE's CLOCKS IN MEMORY (2): all rows. Conditions: none.
-/
namespace Go.Proofs.Ytdkmepjedjclkaa
open Go.AM
open Go.Proofs.Try (prog)
set_option linter.all false
set_option maxRecDepth 100000
set_option maxHeartbeats 4000000

/-- Some rows of clocks in memory. -/
structure CAt (m : Mem) (oid : Nat) (rids : Nat → Nat) (D : List Int) (C : List (List (List Int))) : Prop where
  o : m.h oid = some (.cells (rowsV D rids C.length))
  r : ∀ h, h < C.length → m.h (rids h) = some (.cells (flatC rowC (kth C h)))
  ol : oid < m.nx
  rl : ∀ h, h < C.length → rids h < m.nx
  ne : ∀ h, h < C.length → oid ≠ rids h
  inj : ∀ g h, g < C.length → h < C.length → rids g = rids h → g = h

def unitsC (D : List Int) (k : Nat) : List (List (List Int)) := (List.range k).map fun h => unitsW D.length h (nth D h).toNat
theorem unitsC_len (D : List Int) (k : Nat) : (unitsC D k).length = k := by simp [unitsC]
theorem unitsC_kth (D : List Int) {k h : Nat} (hh : h < k) : kth (unitsC D k) h = unitsW D.length h (nth D h).toNat := by
  simp [kth, unitsC, List.getD, List.getElem?_map, List.getElem?_range hh]

theorem build_loop {vD vN : AV} {D : List Int} (hD : IsInts vD D) (h4 : D.length ≤ 4) (hi : ∀ i, nth D i ≤ 6) (lo : ∀ i, 0 ≤ nth D i) {oid : Nat} (Kc : List Item) : ∀ (k h : Nat) (m : Mem) (rids : Nat → Nat), h + k = D.length → CAt m oid rids D (unitsC D h) →
    ∃ m' rids', CAt m' oid rids' D (unitsC D D.length) ∧ r09_Clocks.L0 (.fptr [vD, vN]) (.sl oid 1 0 h h) (.int .i64 h) m Kc = r09_Clocks.L0 (.fptr [vD, vN]) (.sl oid 1 0 D.length D.length) (.int .i64 D.length) m' Kc := by
  intro k
  induction k with
  | zero =>
    intro h m rids h1 c
    have e : h = D.length := by omega
    subst e
    exact ⟨m, rids, c, rfl⟩
  | succ k ih =>
    intro h m rids h1 c
    have hh : h < D.length := by omega
    have hl := unitsC_len D h
    let rids' : Nat → Nat := fun g => if g = h then m.nx else rids g
    have r0 : rids' h = m.nx := if_pos rfl
    have r1 : ∀ g, g ≠ h → rids' g = rids g := fun g hg => if_neg hg
    have hol := c.ol
    have hrows : rowsV D rids' h = rowsV D rids h := List.map_congr_left fun g hg => by simp only [rowV]; rw [r1 g (by have := List.mem_range.1 hg; omega)]
    have co := c.o
    rw [hl] at co
    have lo' := lo h
    obtain ⟨m', i1, i2, i3, i4, i5⟩ := row_loop (vN := vN) hD h4 hi hh (oid := oid) (rids := rids') Kc (nth D h).toNat 0 ⟨upd m.h m.nx (some (.cells [])), m.nx + 1⟩ (by omega) (by rw [r0]; simp [unitsW]) (by simp [show (oid == m.nx) = false from beq_eq_false_iff_ne.2 (by omega), hrows]; exact co) (by rw [r0]; show m.nx < m.nx + 1; omega) (by show oid < m.nx + 1; omega) (by rw [r0]; omega)
    have c' : CAt m' oid rids' D (unitsC D (h + 1)) := by
      have hl1 := unitsC_len D (h + 1)
      have i3' : m.nx + 1 ≤ m'.nx := i3
      have cr := c.r
      have crl := c.rl
      have cne := c.ne
      have cinj := c.inj
      rw [hl] at cr crl cne cinj
      refine ⟨by rw [hl1]; exact i2, fun g hg => ?_, by omega, fun g hg => ?_, fun g hg => ?_, fun g g' hg hg' e => ?_⟩
      · rw [hl1] at hg
        rw [unitsC_kth D hg]
        by_cases e : g = h
        · rw [e]; exact i1
        · have hgh : g < h := by omega
          have a := crl g hgh
          have b := cne g hgh
          rw [r1 g e, i4 (rids g) (by show rids g < m.nx + 1; omega) (by rw [r0]; omega) (fun x => b x.symm)]
          have := cr g hgh
          rw [unitsC_kth D hgh] at this
          simp [show (rids g == m.nx) = false from beq_eq_false_iff_ne.2 (by omega)]
          exact this
      · rw [hl1] at hg
        by_cases e : g = h
        · rw [e, r0]; omega
        · rw [r1 g e]; have := crl g (by omega); omega
      · rw [hl1] at hg
        by_cases e : g = h
        · rw [e, r0]; omega
        · rw [r1 g e]; exact cne g (by omega)
      · rw [hl1] at hg hg'
        by_cases e1 : g = h
        · by_cases e2 : g' = h
          · omega
          · rw [e1, r0, r1 g' e2] at e; have := crl g' (by omega); omega
        · by_cases e2 : g' = h
          · rw [e2, r0, r1 g e1] at e; have := crl g (by omega); omega
          · rw [r1 g e1, r1 g' e2] at e; exact cinj g g' (by omega) (by omega) e
    obtain ⟨m2, rids2, j1, j2⟩ := ih (h + 1) m' rids' (by omega) c'
    refine ⟨m2, rids2, j1, ?_⟩
    simp only [Int.natCast_add, Int.cast_ofNat_Int] at j2
    rw [← j2, ← i5, r09_Clocks.L0_eq, r0]
    simp [hD.len, hh]
    done
end Go.Proofs.Ytdkmepjedjclkaa

/-
  THE REFERENCE's CLOCKS IN MEMORY (3): at the outset. Conditions: none.
-/
namespace Go.Proofs.Ytdkmepjedjclkaa
open Go.AM
open Go.Proofs.Try (prog)
set_option linter.all false
set_option maxRecDepth 100000

theorem nth_unitW {n h i g : Nat} (hh : h < n) : nth (unitW n h i) g = if g = h then (i : Int) + 1 else 0 := by
  simp only [unitW, nth_set]
  by_cases e : h = g
  · subst e; simp [hh]
  · have : ¬ g = h := fun x => e x.symm
    simp [e, this, nth_zero']
theorem units_inv {D : List Int} {N : List Note} (L : Lims D N) : RInv D N (unitsC D D.length) := by
  have hk : ∀ h, h < D.length → kth (unitsC D D.length) h = unitsW D.length h (nth D h).toNat := fun h hh => unitsC_kth D hh
  have hk0 : ∀ h, D.length ≤ h → kth (unitsC D D.length) h = [] := fun h hh => by simp [kth, unitsC, List.getD, List.getElem?_eq_none (show (List.range D.length).length ≤ h by simpa using hh), hh]
  have hc : ∀ h i, h < D.length → i < (nth D h).toNat → cth (kth (unitsC D D.length) h) i = unitW D.length h i := by
    intro h i hh hi
    rw [hk h hh]
    simp [cth, unitsW, List.getD, List.getElem?_map, List.getElem?_range hi]
  have hin : ∀ h i, i < (kth (unitsC D D.length) h).length → h < D.length ∧ i < (nth D h).toNat := by
    intro h i hi
    rcases Nat.lt_or_ge h D.length with hh | hh
    · rw [hk h hh] at hi; exact ⟨hh, by simpa [unitsW] using hi⟩
    · rw [hk0 h hh] at hi; simp at hi
  refine ⟨unitsC_len D _, fun h hh => by rw [hk h hh]; have := L.lo h; simp [unitsW]; omega, fun h c hcm => ?_, fun V hV h i hi g => ?_, fun h i hi => ?_, fun h i hi g => ?_⟩
  · rcases Nat.lt_or_ge h D.length with hh | hh
    · rw [hk h hh] at hcm
      simp only [unitsW, List.mem_map] at hcm
      obtain ⟨i, _, rfl⟩ := hcm
      simp [unitW]
    · rw [hk0 h hh] at hcm; cases hcm
  · obtain ⟨a, b⟩ := hin h i hi
    show nth _ _ ≤ _
    rw [hc h i a b, nth_unitW a]
    split
    · rename_i e; rw [e]; exact hV.unit h i (by omega)
    · exact hV.pos h i g
  · obtain ⟨a, b⟩ := hin h i hi
    show _ ≤ nth _ _
    rw [hc h i a b, nth_unitW a, if_pos rfl]; exact Int.le_refl _
  · obtain ⟨a, b⟩ := hin h i hi
    show 0 ≤ nth _ _
    rw [hc h i a b, nth_unitW a]
    split <;> omega
end Go.Proofs.Ytdkmepjedjclkaa

/-
  THE REFERENCE's CLOCKS IN MEMORY (4): the rounds, as growth. Conditions: none.
-/
namespace Go.Proofs.Ytdkmepjedjclkaa
open Go.AM
open Go.Proofs.Try (prog)
set_option linter.all false
set_option maxRecDepth 100000
set_option maxHeartbeats 4000000

theorem updNe {h : Nat → Option AObj} {i j : Nat} {o : Option AObj} (e : j ≠ i) : upd h i o j = h j := by simp [upd, show (j == i) = false from beq_eq_false_iff_ne.2 e]
theorem flatC_row (R : List (List Int)) : flatC rowC R = R.map fun c => .fsl false c.length (ints c) := by
  induction R with
  | nil => rfl
  | cons a R ih => rw [flatC_cons, ih]; rfl
theorem flatC_row_set (R : List (List Int)) (i : Nat) (x : List Int) : (flatC rowC R).set i (.fsl false x.length (ints x)) = flatC rowC (R.set i x) := by
  rw [flatC_row, flatC_row, List.map_set]
theorem flatC_row_get {R : List (List Int)} {i : Nat} (hi : i < R.length) : (flatC rowC R)[i]? = some (.fsl false (cth R i).length (ints (cth R i))) := by
  rw [flatC_row, List.getElem?_map, cth_eq hi]; rfl
theorem flatC_row_len (R : List (List Int)) : (flatC rowC R).length = R.length := by rw [flatC_row]; simp
theorem flatC_row_one (R : List (List Int)) : oneL (flatC rowC R) = true := flatC_oneL (fun _ => rfl) R
theorem rowsV_len (D : List Int) (rids : Nat → Nat) (k : Nat) : (rowsV D rids k).length = k := by simp [rowsV]
theorem rowsV_get (D : List Int) (rids : Nat → Nat) {k h : Nat} (hh : h < k) : (rowsV D rids k)[h]? = some (rowV D rids h) := by simp [rowsV, hh]

@[simp] theorem rowsV_getElem (D : List Int) (rids : Nat → Nat) {k h : Nat} (hh : h < (rowsV D rids k).length) : (rowsV D rids k)[h] = rowV D rids h := by simp [rowsV]
@[simp] theorem flatC_row_getElem {R : List (List Int)} {i : Nat} (hi : i < (flatC rowC R).length) : (flatC rowC R)[i] = .fsl false (cth R i).length (ints (cth R i)) := by
  have h := flatC_row_get (R := R) (i := i) (by rwa [flatC_row_len] at hi)
  rw [List.getElem?_eq_getElem hi] at h
  simpa using h

theorem kth_grow {C : List (List (List Int))} {h i : Nat} {c : List Int} (hh : h < C.length) (g : Nat) : kth (growK C h i c) g = if g = h then (kth C h).set i (zmax (cth (kth C h) i) c) else kth C g := by rw [growK, kth_set hh]
theorem growK_len {C : List (List (List Int))} {h i : Nat} {c : List Int} : (growK C h i c).length = C.length := by simp [growK]

theorem CAt.grow {m : Mem} {oid : Nat} {rids : Nat → Nat} {D : List Int} {C : List (List (List Int))} (k : CAt m oid rids D C) {h i n' : Nat} {c : List Int} (hh : h < C.length) (hn : m.nx ≤ n') :
    CAt ⟨upd m.h (rids h) (some (.cells ((flatC rowC (kth C h)).set i (.fsl false (zmax (cth (kth C h) i) c).length (ints (zmax (cth (kth C h) i) c)))))), n'⟩ oid rids D (growK C h i c) := by
  refine ⟨?_, fun g hg => ?_, Nat.lt_of_lt_of_le k.ol hn, fun g hg => ?_, fun g hg => ?_, fun g g' hg hg' e => ?_⟩
  · rw [growK_len]
    show upd m.h (rids h) _ oid = _
    rw [updNe (k.ne h hh)]; exact k.o
  · rw [growK_len] at hg
    rw [kth_grow hh, flatC_row_set]
    show upd m.h (rids h) _ (rids g) = _
    by_cases e : g = h
    · subst e; simp
    · rw [updNe (fun x => e (k.inj g h hg hh x)), if_neg e]; exact k.r g hg
  · rw [growK_len] at hg; exact Nat.lt_of_lt_of_le (k.rl g hg) hn
  · rw [growK_len] at hg; exact k.ne g hg
  · rw [growK_len] at hg hg'; exact k.inj g g' hg hg' e
theorem CAt.more {m : Mem} {oid : Nat} {rids : Nat → Nat} {D : List Int} {C : List (List (List Int))} (k : CAt m oid rids D C) {m' : Mem} (hm : ∀ id, id < m.nx → m'.h id = m.h id) (hn : m.nx ≤ m'.nx) : CAt m' oid rids D C :=
  ⟨by rw [hm _ k.ol]; exact k.o, fun h hh => by rw [hm _ (k.rl h hh)]; exact k.r h hh, Nat.lt_of_lt_of_le k.ol hn, fun h hh => Nat.lt_of_lt_of_le (k.rl h hh) hn, k.ne, k.inj⟩

/-- Some deeds have taken in what was before them. -/
structure Part (D : List Int) (N : List Note) (C C' : List (List (List Int))) (S : Nat → Nat → Prop) : Prop where
  inv : RInv D N C'
  ge : Ge C C'
  own : ∀ (h i : Nat), h < D.length → S h (i + 1) → (i : Int) + 1 < nth D h → ∀ q, kn C h i q ≤ kn C' h (i + 1) q
  note : ∀ x ∈ N, S x.t.toNat (x.r.toNat - 1) → ∀ q, kn C x.f.toNat (x.s.toNat - 1) q ≤ kn C' x.t.toNat (x.r.toNat - 1) q

section
variable {D : List Int} {N : List Note} {A B C : List (List (List Int))} {S T : Nat → Nat → Prop}
theorem Part.refl (I : RInv D N C) (h : ∀ g i, S g i → False) : Part D N C C S := ⟨I, Ge.refl C, fun g i _ s => (h _ _ s).elim, fun x _ s => (h _ _ s).elim⟩
theorem Part.trans {U : Nat → Nat → Prop} (a : Part D N A B S) (b : Part D N B C T) (h : ∀ g i, U g i → S g i ∨ T g i) : Part D N A C U := by
  refine ⟨b.inv, a.ge.trans b.ge, fun g i hg u hi q => ?_, fun x hx u q => ?_⟩
  · rcases h _ _ u with s | t
    · exact Int.le_trans (a.own g i hg s hi q) (b.ge _ _ q)
    · exact Int.le_trans (a.ge _ _ q) (b.own g i hg t hi q)
  · rcases h _ _ u with s | t
    · exact Int.le_trans (a.note x hx s q) (b.ge _ _ q)
    · exact Int.le_trans (a.ge _ _ q) (b.note x hx t q)
theorem Part.round (a : Part D N A B S) (h : ∀ (g i : Nat), g < D.length → (i : Int) < nth D g → S g i) (P : Pre D N) : Round D N A B := by
  refine ⟨a.inv, a.ge, fun g i hg hi q => a.own g i hg (h g (i + 1) hg (by omega)) hi q, fun x hx q => ?_⟩
  obtain ⟨f0, f1, t0, t1, ne, s0, s1, r0, r1⟩ := P.notes x hx
  exact a.note x hx (h _ _ (by omega) (by omega)) q
end

/-- What a deed takes in of the reference's clocks is below all such clocks. -/
theorem own_low {D : List Int} {N : List Note} {C : List (List (List Int))} (I : RInv D N C) {h d : Nat} (hh : h < D.length) (hd : (d : Int) < nth D h) (h0 : 0 < d) : ∀ V, Super D N V → ∀ g, nth (cth (kth C h) (d - 1)) g ≤ V h d g := by
  intro V hV g
  have hr := I.rows h hh
  have a := I.low V hV h (d - 1) (by omega) g
  have b := hV.own h (d - 1) g (by omega)
  rw [show d - 1 + 1 = d by omega] at b
  exact Int.le_trans a b
theorem note_low {D : List Int} {N : List Note} {C : List (List (List Int))} (P : Pre D N) (I : RInv D N C) {x : Note} (hx : x ∈ N) : ∀ V, Super D N V → ∀ g, nth (cth (kth C x.f.toNat) (x.s.toNat - 1)) g ≤ V x.t.toNat (x.r.toNat - 1) g := by
  intro V hV g
  obtain ⟨f0, f1, t0, t1, ne, s0, s1, r0, r1⟩ := P.notes x hx
  have hr := I.rows x.f.toNat (by omega)
  have a := I.low V hV x.f.toNat (x.s.toNat - 1) (by omega) g
  exact Int.le_trans a (hV.note x hx g)
end Go.Proofs.Ytdkmepjedjclkaa

/-
  THE REFERENCE's CLOCKS IN MEMORY (5): a deed takes in what it receives. Conditions: none.
-/
namespace Go.Proofs.Ytdkmepjedjclkaa
open Go.AM
open Go.Proofs.Try (prog)
set_option linter.all false
set_option maxRecDepth 100000
set_option maxHeartbeats 4000000

theorem cnotes_loop {vD vN : AV} {D : List Int} {N : List Note} (hN : IsSl noteC vN N) (P : Pre D N) {oid : Nat} {rids : Nat → Nat} {h d : Nat} (hh : h < D.length) (hd : (d : Int) < nth D h) (R : Int) (Kc : List Item) : ∀ (k i : Nat) (m : Mem) (C : List (List (List Int))), i + k = N.length → CAt m oid rids D C → RInv D N C →
    ∃ m' C', CAt m' oid rids D C' ∧ RInv D N C' ∧ Ge C C' ∧ (∀ x ∈ N.drop i, x.t.toNat = h → x.r.toNat - 1 = d → ∀ q, kn C x.f.toNat (x.s.toNat - 1) q ≤ kn C' h d q) ∧
      r09_Clocks.L10 (.fptr [vD, vN]) (.sl oid 1 0 D.length D.length) (.int .i64 R) (.int .i64 h) (.int .i64 d) (.int .i64 i) m (.inBlock 9 :: .code r09_Clocks.r21 :: .inLoop r09_Clocks.l8 :: .inBlock 8 :: Kc) =
        r09_Clocks.L8 (.fptr [vD, vN]) (.sl oid 1 0 D.length D.length) (.int .i64 R) (.int .i64 h) (.int .i64 ((d : Int) + 1)) m' Kc := by
  have hn4 := P.L.n4
  have h6 := P.L.hi h
  have hwd : IntKind.wrap .i64 ((d : Int) + 1) = (d : Int) + 1 := wrap_id (by omega) (by omega)
  intro k
  induction k with
  | zero =>
    intro i m C h1 c I
    have e : i = N.length := by omega
    subst e
    refine ⟨m, C, c, I, Ge.refl C, fun x hx => by simp at hx, ?_⟩
    rw [r09_Clocks.L10_eq]
    simp [hN.len, hwd]
    done
  | succ k ih =>
    intro i m C h1 c I
    have hi : i < N.length := by omega
    have h24 := P.L.N24
    have hw : IntKind.wrap .i64 ((i : Int) + 1) = (i : Int) + 1 := wrap_id (by omega) (by omega)
    have hmem := nt_mem hi
    have hlow := note_low P I hmem
    obtain ⟨f0, f1, t0, t1, ne, s0, s1, r0, r1⟩ := P.notes _ hmem
    have hdrop := drop_nt hi
    have hnN := hN.idx (noteC_len N) hi .i64
    have hld := load_note hi
    generalize nt N i = x at *
    by_cases q1 : x.t = h
    · by_cases q2 : x.r = (d : Int) + 1
      · have hC := I.len
        have hrows := I.rows h hh
        have hf : x.f.toNat < D.length := by omega
        have hrowsf := I.rows x.f.toNat hf
        have hdl : d < (kth C h).length := by omega
        have hsl : x.s.toNat - 1 < (kth C x.f.toNat).length := by omega
        have hlc : (cth (kth C h) d).length = D.length := I.wid h _ (cth_mem hdl)
        have hlf : (cth (kth C x.f.toNat) (x.s.toNat - 1)).length = D.length := I.wid _ _ (cth_mem hsl)
        have et : x.t.toNat = h := by omega
        have er : x.r.toNat - 1 = d := by omega
        rw [et, er] at hlow
        obtain ⟨I', g1, g2⟩ := I.grow hh hdl hlf hlow
        have c' := c.grow (h := h) (i := d) (n' := m.nx + 1 + 25) (c := cth (kth C x.f.toNat) (x.s.toNat - 1)) (by omega) (by omega)
        have cm := CAt.more (m' := ⟨upd m.h m.nx none, m.nx + 1⟩) c (fun id hid => by simp [show (id == m.nx) = false from beq_eq_false_iff_ne.2 (by omega)]) (by simp)
        have c2 := cm.grow (h := h) (i := d) (n' := m.nx + 1 + 25) (c := cth (kth C x.f.toNat) (x.s.toNat - 1)) (by omega) (by simp)
        obtain ⟨m', C', i1, i2, i3, i4, i5⟩ := ih (i + 1) _ _ (by omega) c2 I'
        refine ⟨m', C', i1, i2, g1.trans i3, fun y hy ht hr q => ?_, ?_⟩
        · rw [hdrop] at hy
          rcases List.mem_cons.1 hy with rfl | hy
          · exact Int.le_trans (g2 q) (i3 h d q)
          · exact Int.le_trans (g1 _ _ q) (i4 y hy ht hr q)
        · have ho := c.o
          rw [hC] at ho
          have hroh := c.r h (by omega)
          have hrof := c.r x.f.toNat (by omega)
          have hol := c.ol
          have hrl := c.rl h (by omega)
          have hrlf := c.rl x.f.toNat (by omega)
          have e1 : (oid == m.nx) = false := beq_eq_false_iff_ne.2 (by omega)
          have e2 : (rids h == m.nx) = false := beq_eq_false_iff_ne.2 (by omega)
          have e3 : (rids x.f.toNat == m.nx) = false := beq_eq_false_iff_ne.2 (by omega)
          have hj := maxR_spec (IsInts.fsl false (cth (kth C h) d)) (IsInts.fsl false (cth (kth C x.f.toNat) (x.s.toNat - 1))) (by omega) (by omega)
          rw [hlc, hlf] at hj
          have g1' := rowsV_get D rids hh
          have g2' := rowsV_get D rids hf
          have g3 := flatC_row_get hdl
          have g4 := flatC_row_get hsl
          have hD1 : (nth D h).toNat = (kth C h).length := by omega
          have hD2 : (nth D x.f.toNat).toNat = (kth C x.f.toNat).length := by omega
          simp only [Int.natCast_add, Int.cast_ofNat_Int] at i5
          rw [← i5, r09_Clocks.L10_eq]
          simp [hN.len, hi, hnN, hld]
          simp [noteC, q1, q2, hwd, hw, ho, e1, e2, e3, rowsV_len, g1', g2', rowV, hroh, hrof, flatC_row_len, g3, g4, hD1, hD2, hlc, hlf, hj, hh, f0, f1, hdl, hsl, show (x.s - 1).toNat = x.s.toNat - 1 by omega, show 0 ≤ x.s - 1 by omega, s0, show x.s - 1 < (kth C x.f.toNat).length by omega, wrap_id (show -9223372036854775808 ≤ x.s - 1 by omega) (show x.s - 1 < 9223372036854775808 by have := P.L.hi x.f.toNat; omega)]
          done
      · obtain ⟨m', C', i1, i2, i3, i4, i5⟩ := ih (i + 1) ⟨upd m.h m.nx none, m.nx + 1⟩ C (by omega) (c.more (fun id hid => by simp [show (id == m.nx) = false from beq_eq_false_iff_ne.2 (by omega)]) (by simp)) I
        refine ⟨m', C', i1, i2, i3, fun y hy ht hr q => ?_, ?_⟩
        · rw [hdrop] at hy
          rcases List.mem_cons.1 hy with rfl | hy
          · omega
          · exact i4 y hy ht hr q
        · simp only [Int.natCast_add, Int.cast_ofNat_Int] at i5
          rw [← i5, r09_Clocks.L10_eq]
          simp [hN.len, hi, hnN, hld]
          simp [noteC, q1, q2, hwd, hw]
          done
    · obtain ⟨m', C', i1, i2, i3, i4, i5⟩ := ih (i + 1) ⟨upd m.h m.nx none, m.nx + 1⟩ C (by omega) (c.more (fun id hid => by simp [show (id == m.nx) = false from beq_eq_false_iff_ne.2 (by omega)]) (by simp)) I
      refine ⟨m', C', i1, i2, i3, fun y hy ht hr q => ?_, ?_⟩
      · rw [hdrop] at hy
        rcases List.mem_cons.1 hy with rfl | hy
        · omega
        · exact i4 y hy ht hr q
      · simp only [Int.natCast_add, Int.cast_ofNat_Int] at i5
        rw [← i5, r09_Clocks.L10_eq]
        simp [hN.len, hi, hnN, hld]
        simp [noteC, q1, hwd, hw]
        done
end Go.Proofs.Ytdkmepjedjclkaa

/-
  THE REFERENCE's CLOCKS IN MEMORY (6): hands, rounds, and what is handed back. Conditions: none.
-/
namespace Go.Proofs.Ytdkmepjedjclkaa
open Go.AM
open Go.Proofs.Try (prog)
set_option linter.all false
set_option maxRecDepth 100000
set_option maxHeartbeats 4000000

theorem cdeeds_loop {vD vN : AV} {D : List Int} {N : List Note} (hN : IsSl noteC vN N) (P : Pre D N) {oid : Nat} {rids : Nat → Nat} {h : Nat} (hh : h < D.length) (R : Int) (Kc : List Item) : ∀ (k d : Nat) (m : Mem) (C : List (List (List Int))), (d : Int) + k = nth D h → CAt m oid rids D C → RInv D N C →
    ∃ m' C', CAt m' oid rids D C' ∧ Part D N C C' (fun g j => g = h ∧ d ≤ j ∧ (j : Int) < nth D h) ∧
      r09_Clocks.L8 (.fptr [vD, vN]) (.sl oid 1 0 D.length D.length) (.int .i64 R) (.int .i64 h) (.int .i64 d) m (.inBlock 7 :: .code r09_Clocks.r18 :: .inLoop r09_Clocks.l6 :: .inBlock 6 :: Kc) =
        r09_Clocks.L6 (.fptr [vD, vN]) (.sl oid 1 0 D.length D.length) (.int .i64 R) (.int .i64 ((h : Int) + 1)) m' Kc := by
  have hn4 := P.L.n4
  have h6 := P.L.hi h
  have hwh : IntKind.wrap .i64 ((h : Int) + 1) = (h : Int) + 1 := wrap_id (by omega) (by omega)
  intro k
  induction k with
  | zero =>
    intro d m C h1 c I
    have hC := I.len
    have hrows := I.rows h hh
    have ho := c.o
    rw [hC] at ho
    have g1' := rowsV_get D rids hh
    have hD1 : (nth D h).toNat = d := by omega
    refine ⟨m, C, c, Part.refl I (fun g i s => by omega), ?_⟩
    rw [r09_Clocks.L8_eq]
    simp [ho, rowsV_len, hh, g1', rowV, hD1, hwh]
    done
  | succ k ih =>
    intro d m C h1 c I
    have hC := I.len
    have hrows := I.rows h hh
    have hd : (d : Int) < nth D h := by omega
    have ho := c.o
    rw [hC] at ho
    have g1' := rowsV_get D rids hh
    have hdl : d < (kth C h).length := by omega
    have hD1 : (nth D h).toNat = (kth C h).length := by omega
    have hlc : (cth (kth C h) d).length = D.length := I.wid h _ (cth_mem hdl)
    have hwd : IntKind.wrap .i64 ((d : Int) - 1) = (d : Int) - 1 := wrap_id (by omega) (by omega)
    by_cases q : d = 0
    · obtain ⟨m1, C1, i1, i2, i3, i4, i5⟩ := cnotes_loop (vD := vD) hN P (rids := rids) hh hd R (.inBlock 7 :: .code r09_Clocks.r18 :: .inLoop r09_Clocks.l6 :: .inBlock 6 :: Kc) N.length 0 m C (by omega) c I
      obtain ⟨m2, C2, j1, j2, j3⟩ := ih (d + 1) m1 C1 (by omega) i1 i2
      refine ⟨m2, C2, j1, Part.trans (S := fun g j => g = h ∧ j = d) ⟨i2, i3, fun g i hg s hi q => by omega, fun x hx s q => ?_⟩ j2 (fun g i s => ?_), ?_⟩
      · have := i4 x (by simpa using hx) s.1 s.2 q
        rw [← s.1, ← s.2] at this; exact this
      · obtain ⟨rfl, s1, s2⟩ := s
        rcases Nat.eq_or_lt_of_le s1 with e | e
        · exact .inl ⟨rfl, e.symm⟩
        · exact .inr ⟨rfl, e, s2⟩
      · simp only [Int.natCast_add, Int.cast_ofNat_Int] at j3
        rw [← j3, ← i5, r09_Clocks.L8_eq]
        subst q
        simp [ho, rowsV_len, hh, g1', rowV, hD1, hdl, hwh]
        done
    · have hsl : d - 1 < (kth C h).length := by omega
      have hlf : (cth (kth C h) (d - 1)).length = D.length := I.wid _ _ (cth_mem hsl)
      obtain ⟨I1, g1, g2⟩ := I.grow hh hdl hlf (own_low I hh hd (by omega))
      have c1 := c.grow (h := h) (i := d) (n' := m.nx + 23) (c := cth (kth C h) (d - 1)) (by omega) (by omega)
      obtain ⟨m1, C1, i1, i2, i3, i4, i5⟩ := cnotes_loop (vD := vD) hN P (rids := rids) hh hd R (.inBlock 7 :: .code r09_Clocks.r18 :: .inLoop r09_Clocks.l6 :: .inBlock 6 :: Kc) N.length 0 _ _ (by omega) c1 I1
      obtain ⟨m2, C2, j1, j2, j3⟩ := ih (d + 1) m1 C1 (by omega) i1 i2
      refine ⟨m2, C2, j1, Part.trans (S := fun g j => g = h ∧ j = d) ⟨i2, g1.trans i3, fun g i hg s hi q' => ?_, fun x hx s q => ?_⟩ j2 (fun g i s => ?_), ?_⟩
      · obtain ⟨rfl, rfl⟩ := s
        have b := g2 q'
        have a := i3 g (i + 1) q'
        exact Int.le_trans b a
      · have := i4 x (by simpa using hx) s.1 s.2 q
        have a := g1 x.f.toNat (x.s.toNat - 1) q
        rw [← s.1, ← s.2] at this
        rw [← s.1, ← s.2] at a
        exact Int.le_trans a this
      · obtain ⟨rfl, s1, s2⟩ := s
        rcases Nat.eq_or_lt_of_le s1 with e | e
        · exact .inl ⟨rfl, e.symm⟩
        · exact .inr ⟨rfl, e, s2⟩
      · have hroh := c.r h (by omega)
        have hj := maxR_spec (IsInts.fsl false (cth (kth C h) d)) (IsInts.fsl false (cth (kth C h) (d - 1))) (by omega) (by omega)
        rw [hlc, hlf] at hj
        have g3 := flatC_row_get hdl
        have g4 := flatC_row_get hsl
        have e1 : ((d : Int) - 1).toNat = d - 1 := by omega
        simp only [Int.natCast_add, Int.cast_ofNat_Int] at j3
        rw [← j3, ← i5, r09_Clocks.L8_eq]
        simp [ho, rowsV_len, hh, g1', rowV, hD1, hdl, hwh, hwd, q, show 0 < d by omega, hroh, flatC_row_len, g3, g4, hlc, hlf, hj, e1, hsl, show (1 : Int) ≤ d by omega, show (d : Int) - 1 < (kth C h).length by omega]
        done

theorem chands_loop {vD vN : AV} {D : List Int} {N : List Note} (hN : IsSl noteC vN N) (P : Pre D N) {oid : Nat} {rids : Nat → Nat} {R : Int} (hR0 : 0 ≤ R) (hR : R < 100) (Kc : List Item) : ∀ (k h : Nat) (m : Mem) (C : List (List (List Int))), h + k = D.length → CAt m oid rids D C → RInv D N C →
    ∃ m' C', CAt m' oid rids D C' ∧ Part D N C C' (fun g j => h ≤ g ∧ g < D.length ∧ (j : Int) < nth D g) ∧
      r09_Clocks.L6 (.fptr [vD, vN]) (.sl oid 1 0 D.length D.length) (.int .i64 R) (.int .i64 h) m (.inBlock 5 :: .code r09_Clocks.r15 :: .inLoop r09_Clocks.l4 :: .inBlock 4 :: Kc) =
        r09_Clocks.L4 (.fptr [vD, vN]) (.sl oid 1 0 D.length D.length) (.int .i64 (R + 1)) m' Kc := by
  have hwR : IntKind.wrap .i64 (R + 1) = R + 1 := wrap_id (by omega) (by omega)
  intro k
  induction k with
  | zero =>
    intro h m C h1 c I
    refine ⟨m, C, c, Part.refl I (fun g i s => by omega), ?_⟩
    have e : h = D.length := by omega
    subst e
    rw [r09_Clocks.L6_eq]
    simp [hwR]
    done
  | succ k ih =>
    intro h m C h1 c I
    have hh : h < D.length := by omega
    have h0 := P.L.lo h
    obtain ⟨m1, C1, i1, i2, i3⟩ := cdeeds_loop (vD := vD) hN P (rids := rids) hh R (.inBlock 5 :: .code r09_Clocks.r15 :: .inLoop r09_Clocks.l4 :: .inBlock 4 :: Kc) (nth D h).toNat 0 m C (by omega) c I
    obtain ⟨m2, C2, j1, j2, j3⟩ := ih (h + 1) m1 C1 (by omega) i1 i2.inv
    refine ⟨m2, C2, j1, Part.trans i2 j2 (fun g i s => ?_), ?_⟩
    · obtain ⟨s0, s1, s2⟩ := s
      rcases Nat.eq_or_lt_of_le s0 with e | e
      · subst e; exact .inl ⟨rfl, by omega, s2⟩
      · exact .inr ⟨e, s1, s2⟩
    · simp only [Int.natCast_add, Int.cast_ofNat_Int] at j3
      simp only [Int.cast_ofNat_Int] at i3
      rw [← j3, ← i3, r09_Clocks.L6_eq]
      simp [hh]
      done

/-- The clocks as a value. -/
def clkC (R : List (List Int)) : List AV := [.fsl false R.length (flatC rowC R)]
def clkV (C : List (List (List Int))) : AV := .fsl false C.length (flatC clkC C)

theorem deep_rows {m : Mem} {oid : Nat} {rids : Nat → Nat} {D : List Int} {N : List Note} {C : List (List (List Int))} (c : CAt m oid rids D C) (I : RInv D N C) (d : Nat) : deep m.h (d + 4) (.sl oid 1 0 D.length D.length) = some (clkV C) := by
  have hC := I.len
  have ho := c.o
  rw [hC] at ho
  have key : ∀ k, k ≤ D.length → mapO (deep m.h (d + 3)) (rowsV D rids k) = some (flatC clkC (C.take k)) := by
    intro k
    induction k with
    | zero => intro _; simp [rowsV]
    | succ k ih =>
      intro hk
      have hroh := c.r k (by omega)
      have hrows := I.rows k (by omega)
      have hD1 : (nth D k).toNat = (kth C k).length := by omega
      have e1 : C.take (k + 1) = C.take k ++ [kth C k] := by
        rw [List.take_add_one, List.getElem?_eq_getElem (show k < C.length by omega)]
        simp [kth, List.getD, List.getElem?_eq_getElem (show k < C.length by omega)]
      have hdp : mapO (deep m.h (d + 2)) (flatC rowC (kth C k)) = some (flatC rowC (kth C k)) := flatC_deep _ _ (fun a => by simp [rowC]) _
      have htk : (flatC rowC (kth C k)).take (kth C k).length = flatC rowC (kth C k) := List.take_of_length_le (by rw [flatC_row_len]; exact Nat.le_refl _)
      rw [rowsV_succ, mapO_append, ih (by omega), e1, flatC_append, flatC_one]
      simp [rowV, hD1, hroh, flatC_row_len, hdp, htk, clkC]
  have := key D.length (Nat.le_refl _)
  rw [← hC, List.take_length] at this
  have htk : (rowsV D rids D.length).take D.length = rowsV D rids D.length := List.take_of_length_le (by rw [rowsV_len]; exact Nat.le_refl _)
  rw [hC] at this
  simp [ho, rowsV_len, htk, this, clkV, hC]

theorem crounds_loop {vD vN : AV} {D : List Int} {N : List Note} {K : List (List (List Int))} (hN : IsSl noteC vN N) (c0 : Clocks D N K) (rD : Reach D N D) {oid : Nat} {rids : Nat → Nat} : ∀ (k : Nat) (R : Nat) (m : Mem) (C : List (List (List Int))) (x : List Int), R + k = 24 → CAt m oid rids D C → RInv D N C → Reach D N x → Settled K C x → D.sum ≤ x.sum + k →
    ∃ C', RInv D N C' ∧ Settled K C' D ∧
      r09_Clocks.L4 (.fptr [vD, vN]) (.sl oid 1 0 D.length D.length) (.int .i64 R) m [.code r09_Clocks.r30, .code .ret] = some (clkV C', Mem.empty) := by
  intro k
  induction k with
  | zero =>
    intro R m C x h1 c I r st hs
    refine ⟨C, I, settled_all c0 rD r st (by omega), ?_⟩
    have e : R = 24 := by omega
    subst e
    have := deep_rows c I 2
    rw [r09_Clocks.L4_eq]
    simp at this
    simp [this]
    done
  | succ k ih =>
    intro R m C x h1 c I r st hs
    obtain ⟨m1, C1, i1, i2, i3⟩ := chands_loop (vD := vD) hN c0.P (rids := rids) (R := (R : Int)) (by omega) (by omega) [.code r09_Clocks.r30, .code .ret] D.length 0 m C (by omega) c I
    have rd : Round D N C C1 := i2.round (fun g i hg hi => ⟨by omega, hg, hi⟩) c0.P
    obtain ⟨y, y1, y2, y3, y4⟩ := round_next c0 rD rd r st
    obtain ⟨C', j1, j2, j3⟩ := ih (R + 1) m1 C1 y (by omega) i1 i2.inv y1 y2 (by omega)
    refine ⟨C', j1, j2, ?_⟩
    have hR : R < 24 := by omega
    simp only [Int.natCast_add, Int.cast_ofNat_Int] at j3
    simp only [Int.cast_ofNat_Int] at i3
    rw [← j3, ← i3, r09_Clocks.L4_eq]
    simp [show (R : Int) < 24 by omega]
    done

theorem sum_six (D : List Int) (h4 : D.length ≤ 4) (hi : ∀ i, nth D i ≤ 6) : D.sum ≤ 24 := by
  have h0 := hi 0; have h1 := hi 1; have h2 := hi 2; have h3 := hi 3
  match D, h4 with
  | [], _ => simp
  | [a], _ => simp [nth] at *; omega
  | [a, b], _ => simp [nth] at *; omega
  | [a, b, c], _ => simp [nth] at *; omega
  | [a, b, c, d], _ => simp [nth] at *; omega

/-- What the reference's Clocks hands back: the program's clocks. -/
theorem clocksR_spec {v : AV} {D : List Int} {N : List Note} {K : List (List (List Int))} (hs : IsTale v D N) (V : ValidS D N) (c0 : Clocks D N K) :
    ∃ C, RInv D N C ∧ (∀ (h i : Nat), (i : Int) < nth D h → ∀ q, kn C h i q = kn K h i q) ∧ ∀ m, denC prog ann 34 [v] m = some (clkV C, m) := by
  obtain ⟨vD, vN, rfl, hD, hN⟩ := hs.ex
  have L := c0.P.L
  have u0 : CAt ⟨upd Mem.empty.h 0 (some (.cells [])), 1⟩ 0 (fun _ => 0) D (unitsC D 0) := ⟨by simp [unitsC, rowsV], fun h hh => by simp [unitsC] at hh, by show 0 < 1; omega, fun h hh => by simp [unitsC] at hh, fun h hh => by simp [unitsC] at hh, fun g h hg => by simp [unitsC] at hg⟩
  obtain ⟨m1, rids, a1, a2⟩ := build_loop (vN := vN) hD L.n4 L.hi L.lo (oid := 0) [.code r09_Clocks.r13, .code r09_Clocks.k4, .code r09_Clocks.r30, .code .ret] D.length 0 ⟨upd Mem.empty.h 0 (some (.cells [])), 1⟩ (fun _ => 0) (by omega) u0
  obtain ⟨C, b1, b2, b3⟩ := crounds_loop (vD := vD) hN c0 V.all 24 0 m1 (unitsC D D.length) (List.replicate D.length 0) rfl a1 (units_inv L) Reach.zero (fun h i hi => by rw [nth_zero'] at hi; omega) (by have := sum_six D L.n4 L.hi; simp; omega)
  refine ⟨C, b1, fun h i hi q => settled_eq c0 b1 b2 hi q, fun m => ?_⟩
  rw [r09_Clocks.call_eq _ _ (by simp [hD.closed, hN.closed])]
  simp at a2 b3
  rw [r09_Clocks.b_eq]
  have e0 : den prog ann 34 (.code r09_Clocks.r0 :: .code r09_Clocks.r1 :: .code r09_Clocks.r2 :: .code r09_Clocks.k0 :: [.code r09_Clocks.r13, .code r09_Clocks.k4, .code r09_Clocks.r30, .code .ret]) ⟨[(0, .agg [vD, vN])], 138, Mem.empty⟩ = r09_Clocks.L0 (.fptr [vD, vN]) (.sl 0 1 0 0 0) (.int .i64 0) ⟨upd Mem.empty.h 0 (some (.cells [])), 1⟩ [.code r09_Clocks.r13, .code r09_Clocks.k4, .code r09_Clocks.r30, .code .ret] := by
    simp [hD.one, hN.one, hD.closed, hN.closed]
  rw [e0, a2, r09_Clocks.L0_eq]
  simp [hD.len, b3]
end Go.Proofs.Ytdkmepjedjclkaa
