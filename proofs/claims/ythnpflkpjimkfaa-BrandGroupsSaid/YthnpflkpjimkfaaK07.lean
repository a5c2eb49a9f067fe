/-
  CLASSES: what the program returns. Conditions: none.
-/
import Derived.Test.YthnpflkpjimkfaaK06
import Derived.Test.YthnpflkpjimkfaaK03
import Derived.Test.YthnpflkpjimkfaaK05
set_option linter.all false
namespace Go.Proofs.Ythnpflkpjimkfaa
open Go.AM
open Go.Proofs.Try (prog)
set_option linter.all false
set_option maxRecDepth 100000
set_option maxHeartbeats 8000000
structure Eqv (E : Nat → Nat → Bool) (n : Nat) : Prop where
  rf : ∀ i, i < n → E i i = true
  sy : ∀ i j, i < n → j < n → E i j = true → E j i = true
  tr : ∀ i j k, i < n → j < n → k < n → E i j = true → E j k = true → E i k = true
def frstB (E : Nat → Nat → Bool) (i : Nat) : Bool := !(List.range i).any fun j => E j i
def clsR (E : Nat → Nat → Bool) (n c : Nat) : List (List Nat) := ((List.range c).filter (frstB E)).map fun i => (List.range n).filter (E i)
def clsL (E : Nat → Nat → Bool) (n : Nat) : List (List Nat) := clsR E n n
theorem clsR_succ (E : Nat → Nat → Bool) (n c : Nat) : clsR E n (c + 1) = clsR E n c ++ if frstB E c = true then [(List.range n).filter (E c)] else [] := by
  rw [clsR, clsR, List.range_succ, List.filter_append, List.map_append]
  congr 1
  by_cases q : frstB E c = true <;> simp [q]
def clV (S : SM) (c : List Nat) : List AV := c.map fun j => .str (wrd S j)
def clF (S : SM) (c : List Nat) : AV := .fsl false c.length (clV S c)
def clsV (S : SM) (l : List (List Nat)) : AV := .fsl false l.length (l.map (clF S))
theorem clV_closed (S : SM) (c : List Nat) : closedL (clV S c) = true := by
  induction c with
  | nil => rfl
  | cons a c ih => simp only [clV, List.map_cons, closedL] at ih ⊢; rw [ih]; rfl
noncomputable def KC0 : List Item := [.code brand_monoid_classes.r17, .code .ret]
noncomputable def KC2 : List Item := .code brand_monoid_classes.r15 :: .inBlock 1 :: .code brand_monoid_classes.r16 :: .inLoop brand_monoid_classes.l0 :: .inBlock 0 :: KC0
theorem cl_in {nv gv : AV} {rows : List (List Int)} {k : Nat} {S : SM} (W : MW rows k S) {D : MB} (hD : Wf S.1.length D) {E : Nat → Nat → Bool} (hE : ∀ i j, i < S.1.length → j < S.1.length → (mth D i j && mth D j i) = E i j) {Z i lo : Nat} (hi : i < S.1.length) (hZ : Z < lo) {o : AV} {r : Option Res} :
    ∀ (c j : Nat) (h : Nat → Option AObj) (nx0 : Nat) (w : AV) (sn : List Bool), j + c = S.1.length → h Z = some (.cells (bls sn)) → sn.length = S.1.length → Nl h w (clV S ((List.range j).filter (E i))) lo nx0 → lo ≤ nx0 → (w = .nils → (List.range j).filter (E i) = []) →
    (∀ h' nx' w' sn', h' Z = some (.cells (bls sn')) → sn'.length = S.1.length → (∀ j', j' < S.1.length → bnth sn' j' = (bnth sn j' || (decide (j ≤ j') && E i j'))) → Nl h' w' (clV S ((List.range S.1.length).filter (E i))) lo nx' → nx0 ≤ nx' → (∀ y, y < lo → y ≠ Z → h' y = h y) →
      brand_monoid_classes.L2 (monV nv gv S) (mbV S.1.length D) (.sl Z 1 0 S.1.length S.1.length) o (.int .i64 i) w' (.int .i64 S.2.length) (.int .i64 i) (wdsV S) (.int .i64 S.2.length) (.int .i64 S.1.length) ⟨h', nx'⟩ KC2 = r) →
    brand_monoid_classes.L2 (monV nv gv S) (mbV S.1.length D) (.sl Z 1 0 S.1.length S.1.length) o (.int .i64 i) w (.int .i64 S.2.length) (.int .i64 i) (wdsV S) (.int .i64 S.2.length) (.int .i64 j) ⟨h, nx0⟩ KC2 = r := by
  intro c
  have hle := W.ok.le
  have hlen := W.ok.len
  induction c with
  | zero =>
    intro j h nx0 w sn h1 h0 hl N hlo hwn hk
    have e : j = S.1.length := by omega
    subst e
    exact hk h nx0 w sn h0 hl (fun j' hj' => by rw [show decide (S.1.length ≤ j') = false from decide_eq_false (by omega)]; simp) N (Nat.le_refl _) (fun _ _ _ => rfl)
  | succ c ih =>
    intro j h nx0 w sn h1 h0 hl N hlo hwn hk
    have hj : j < S.1.length := by omega
    have hj2 : j < S.2.length := by omega
    have hwj : IntKind.wrap .i64 ((j : Int) + 1) = (j : Int) + 1 := wrap_id (by omega) (by omega)
    obtain ⟨w1, w2, w3, w4⟩ := W.wok hj
    have hdw : ((S.2.map AV.str).drop j).head? = some (.str (wrd S j)) := by rw [List.head?_drop, List.getElem?_map, w1]; rfl
    have m1 := mbV_head (n := S.1.length) (i := i) (L := D) (by rw [hD.l]; exact hi)
    have m2 := mbV_head (n := S.1.length) (i := j) (L := D) (by rw [hD.l]; exact hj)
    have b1 := bls_head (bs := brw D i) (i := j) (by rw [hD.r i hi]; exact hj)
    have b2 := bls_head (bs := brw D j) (i := i) (by rw [hD.r j hj]; exact hi)
    have q1 : bnth (brw D i) j = mth D i j := rfl
    have q2 : bnth (brw D j) i = mth D j i := rfl
    rw [q1] at b1
    rw [q2] at b2
    have hEij := hE i j hi hj
    have hflt : (List.range (j + 1)).filter (E i) = (List.range j).filter (E i) ++ if E i j = true then [j] else [] := by
      rw [List.range_succ, List.filter_append]; by_cases q : E i j = true <;> simp [q]
    have hfl : ((List.range j).filter (E i)).length ≤ j := by have := List.length_filter_le (E i) (List.range j); simpa using this
    cases qE : E i j with
    | false =>
      rw [qE] at hflt hEij
      simp only [Bool.false_eq_true, if_false, List.append_nil] at hflt
      have st := ih (j + 1) h nx0 w sn (by omega) h0 hl (by rw [hflt]; exact N) hlo (by rw [hflt]; exact hwn) (fun h' nx' w' sn' f1 f2 f3 f4 f5 f6 => hk h' nx' w' sn' f1 f2 (fun j' hj' => by
        rw [f3 j' hj']
        by_cases e : j' = j
        · subst e; rw [qE]; simp
        · congr 2; rw [decide_eq_decide]; omega) f4 f5 f6)
      simp only [Int.natCast_add, Int.cast_ofNat_Int] at st
      rw [brand_monoid_classes.L2_eq]
      simp only [mbV, wdsV, hD.l] at st ⊢
      cases e1 : mth D i j with
      | false =>
        rw [e1] at b1
        simp [hj2, hdw, hi, hj, m1, b1, hwj, -List.head?_drop, -List.map_drop]
        exact st
      | true =>
        rw [e1] at b1
        rw [e1, Bool.true_and] at hEij
        rw [hEij] at b2
        simp [hj2, hdw, hi, hj, m1, m2, b1, b2, hwj, -List.head?_drop, -List.map_drop]
        exact st
    | true =>
      rw [qE] at hflt hEij
      simp only [if_true] at hflt
      rw [Bool.and_eq_true] at hEij
      rw [hEij.1] at b1
      rw [hEij.2] at b2
      have hcv : clV S ((List.range j).filter (E i)) ++ [.str (wrd S j)] = clV S ((List.range (j + 1)).filter (E i)) := by rw [hflt]; simp [clV]
      obtain ⟨w', h', nx', g1, g2, g3, g4, g5, g6, g7⟩ := N.app (nx := nx0) (by' := 16) (Nat.le_refl _) hlo (by simp [clV]; omega) (.str (wrd S j))
      rw [hcv] at g2
      have low : ∀ y, y < lo → h' y = h y := fun y hy => g6 y (fun e => by
        rcases g5 y e with q | q
        · have := N.oid q; omega
        · omega)
      have hZ' : h' Z = some (.cells (bls sn)) := by rw [low Z hZ, h0]
      have st := ih (j + 1) (upd h' Z (some (.cells (bls (sn.set j true))))) nx' w' (sn.set j true) (by omega) (by simp) (by simp [hl]) (g2.fr (fun y y1 y2 _ => updNe (by omega)) (Nat.le_refl _)) (by omega) (fun e => absurd e g7) (fun h2 nx2 w2 sn2 f1 f2 f3 f4 f5 f6 => hk h2 nx2 w2 sn2 f1 f2 (fun j' hj' => by
        rw [f3 j' hj', bnth_set (by omega)]
        by_cases e : j = j'
        · subst e; rw [if_pos rfl, qE]; simp
        · rw [if_neg e]; congr 2; rw [decide_eq_decide]; omega) f4 (by omega) (fun y y1 y2 => by rw [f6 y y1 y2, updNe y2, low y y1]))
      simp only [Int.natCast_add, Int.cast_ofNat_Int] at st
      rw [brand_monoid_classes.L2_eq]
      simp only [mbV, wdsV, hD.l] at st ⊢
      simp [hj2, hdw, hi, hj, m1, m2, b1, b2, N.one, g1, hZ', hl, bls_set, hwj, -List.head?_drop, -List.map_drop]
      exact st
end Go.Proofs.Ythnpflkpjimkfaa

/-
  CLASSES: all of them. Conditions: none.
-/
namespace Go.Proofs.Ythnpflkpjimkfaa
open Go.AM
open Go.Proofs.Try (prog)
set_option linter.all false
set_option maxRecDepth 100000
set_option maxHeartbeats 8000000
theorem clF_deep (S : SM) (c : List Nat) (h : Nat → Option AObj) (d : Nat) : AM.deep h (d + 1) (clF S c) = some (clF S c) := rfl
theorem cl_out {nv gv : AV} {rows : List (List Int)} {k : Nat} {S : SM} (W : MW rows k S) {D : MB} (hD : Wf S.1.length D) {E : Nat → Nat → Bool} (hE : ∀ i j, i < S.1.length → j < S.1.length → (mth D i j && mth D j i) = E i j) (eq : Eqv E S.1.length) {Z lo : Nat} (hZ : Z < lo) :
    ∀ (c i : Nat) (h : Nat → Option AObj) (nx0 : Nat) (o : AV) (sn : List Bool), i + c = S.1.length → h Z = some (.cells (bls sn)) → sn.length = S.1.length → (∀ j', j' < S.1.length → bnth sn j' = (List.range i).any fun j => E j j') → Nl h o ((clsR E S.1.length i).map (clF S)) lo nx0 → lo ≤ nx0 → (0 < i → o ≠ .nils) → (clsR E S.1.length i).length ≤ i →
    brand_monoid_classes.L0 (monV nv gv S) (mbV S.1.length D) (.sl Z 1 0 S.1.length S.1.length) o (.int .i64 S.2.length) (.int .i64 i) ⟨h, nx0⟩ KC0 = some (clsV S (clsL E S.1.length), Mem.empty) := by
  intro c
  have hle := W.ok.le
  have hlen := W.ok.len
  have hpos := W.pos
  induction c with
  | zero =>
    intro i h nx0 o sn h1 h0 hl hsn N hlo hon hcl
    have e : i = S.2.length := by omega
    subst e
    have hd := N.deep 5 (fun x hx => by
      simp only [List.mem_map] at hx
      obtain ⟨b, _, rfl⟩ := hx
      exact clF_deep S b h 4) (hon (by omega))
    have e2 : clsL E S.1.length = clsR E S.1.length S.2.length := by rw [clsL, hlen]
    rw [brand_monoid_classes.L0_eq]
    simp [KC0, hd, clsV, e2]
    done
  | succ c ih =>
    intro i h nx0 o sn h1 h0 hl hsn N hlo hon hcl
    have hi : i < S.1.length := by omega
    have hi2 : i < S.2.length := by omega
    have hwi : IntKind.wrap .i64 ((i : Int) + 1) = (i : Int) + 1 := wrap_id (by omega) (by omega)
    have hany : ∀ j', ((List.range (i + 1)).any fun j => E j j') = (((List.range i).any fun j => E j j') || E i j') := fun j' => by rw [List.range_succ, List.any_append]; simp
    have hsc : (bls sn)[i]? = some (.bool (bnth sn i)) := by
      have : i < sn.length := by omega
      simp [bls, bnth, this, List.getD_eq_getElem?_getD]
    have hsi := hsn i hi
    cases q : (List.range i).any fun j => E j i with
    | true =>
      rw [q] at hsi
      rw [hsi] at hsc
      have hsx := (List.getElem?_eq_some_iff.1 hsc).2
      have hf : frstB E i = false := by rw [frstB, q]; rfl
      have e1 : clsR E S.1.length (i + 1) = clsR E S.1.length i := by rw [clsR_succ, hf]; simp
      obtain ⟨j0, hj0, hE0⟩ := List.any_eq_true.1 q
      have hj0 : j0 < i := by simpa using hj0
      have st := ih (i + 1) h nx0 o sn (by omega) h0 hl (fun j' hj' => by
        rw [hsn j' hj', hany]
        cases w : E i j' with
        | false => simp
        | true =>
          rw [Bool.or_true]
          exact List.any_eq_true.2 ⟨j0, by simpa using hj0, eq.tr j0 i j' (by omega) hi hj' hE0 w⟩) (by rw [e1]; exact N) hlo (fun _ => hon (by omega)) (by rw [e1]; omega)
      simp only [Int.natCast_add, Int.cast_ofNat_Int] at st
      rw [brand_monoid_classes.L0_eq]
      simp [hi2, hi, h0, hl, hsx, hwi]
      exact st
    | false =>
      rw [q] at hsi
      rw [hsi] at hsc
      have hsx := (List.getElem?_eq_some_iff.1 hsc).2
      have hf : frstB E i = true := by rw [frstB, q]; rfl
      have e1 : clsR E S.1.length (i + 1) = clsR E S.1.length i ++ [(List.range S.1.length).filter (E i)] := by rw [clsR_succ, hf]; simp
      have st := cl_in (nv := nv) (gv := gv) W hD hE (Z := Z) (lo := nx0) hi (by omega) (o := o) (r := some (clsV S (clsL E S.1.length), Mem.empty)) S.1.length 0 h nx0 .nils sn (by omega) h0 hl .nil (Nat.le_refl _) (fun _ => rfl) (fun h' nx' w' sn' f1 f2 f3 f4 f5 f6 => by
        have hmem : i ∈ (List.range S.1.length).filter (E i) := by simp [hi, eq.rf i hi]
        obtain ⟨R, rfl, w1, w2, w3⟩ := f4.sl (f4.nn (by
          intro e
          have := congrArg List.length e
          simp only [clV, List.length_map, List.length_nil] at this
          have := List.length_pos_of_mem hmem
          omega))
        have lcl : (clV S ((List.range S.1.length).filter (E i))).length = ((List.range S.1.length).filter (E i)).length := by simp [clV]
        have N2 : Nl (upd h' R none) o ((clsR E S.1.length i).map (clF S)) lo nx0 := N.fr (fun y y1 y2 _ => by rw [updNe (by omega), f6 y (by omega) (by omega)]) (Nat.le_refl _)
        obtain ⟨o', h2, n2, g1, g2, g3, g4, g5, g6, g7⟩ := N2.app (nx := nx') (by' := 24) (by omega) (by omega) (by simp; omega) (clF S ((List.range S.1.length).filter (E i)))
        have hZ2 : h2 Z = some (.cells (bls sn')) := by
          rw [g6 Z (fun e => by
            rcases g5 Z e with q | q
            · have := N.oid q; omega
            · omega), updNe (by omega), f1]
        have st2 := ih (i + 1) h2 n2 o' sn' (by omega) hZ2 f2 (fun j' hj' => by rw [f3 j' hj', hsn j' hj', hany]; simp) (by rw [e1, List.map_append]; exact g2) (by omega) (fun _ => g7) (by rw [e1]; simp; omega)
        simp only [Int.natCast_add, Int.cast_ofNat_Int] at st2
        have tk : (clV S ((List.range S.1.length).filter (E i))).take ((List.range S.1.length).filter (E i)).length = clV S ((List.range S.1.length).filter (E i)) := List.take_of_length_le (by omega)
        simp only [clF] at g1
        rw [brand_monoid_classes.L2_eq]
        simp only [wdsV]
        simp [KC2, ← hlen, w1, lcl, clV_closed, tk, N.one, g1, hwi]
        simp only [wdsV, ← hlen] at st2
        exact st2)
      simp only [Int.ofNat_zero, Int.cast_ofNat_Int] at st
      rw [brand_monoid_classes.L0_eq]
      simp only [wdsV, monV] at st ⊢
      simp [hi2, hi, h0, hl, hsx]
      exact st
theorem classes_spec {nv gv : AV} {ps : List AV} {rows : List (List Int)} {good : List Bool} {k : Nat} (hn : IsRows nv ps rows) (hg : IsB gv good) (v : VB rows good k) {S : SM} (W : MW rows k S) (lf rt : Bool) {E : Nat → Nat → Bool} (hE : ∀ i j, i < S.1.length → j < S.1.length → (mth (belM rows S k lf rt) i j && mth (belM rows S k lf rt) j i) = E i j) (eq : Eqv E S.1.length) (m : Mem) :
    denC prog ann 89 [monV nv gv S, .bool lf, .bool rt] m = some (clsV S (clsL E S.1.length), m) := by
  have hle := W.ok.le
  have hlen := W.ok.len
  have hb := fun m => below_spec hn hg v W lf rt m
  obtain ⟨hD, _⟩ := belM_law v W lf rt
  have st := cl_out (nv := nv) (gv := gv) W hD hE eq (Z := 0) (lo := 1) (by omega) S.1.length 0 (upd Mem.empty.h 0 (some (.cells (List.replicate S.1.length (.bool false))))) 1 .nils (List.replicate S.1.length false) (by omega) (by simp [bls]) (by simp) (fun j' hj' => by simp [bnth, List.getD_eq_getElem?_getD, hj']) .nil (by omega) (by omega) (by simp [clsR])
  simp only [Int.ofNat_zero, Int.cast_ofNat_Int, KC0] at st
  rw [monV, brand_monoid_classes.call_eq _ _ _ _ (by simp)]
  simp only [wdsV, monV] at st hb ⊢
  simp [← hlen, hb, show S.1.length ≤ 4611686018427387904 by omega, show S.1.length ≤ 70368744177664 by omega]
  simp only [← hlen] at st
  simp [← hlen] at hb
  first
    | (rw [st]; rfl)
    | (simp [hb, show S.1.length ≤ 4611686018427387904 by omega, show S.1.length ≤ 70368744177664 by omega]; rw [st]; rfl)
end Go.Proofs.Ythnpflkpjimkfaa

/-
  CLASSES: Left, Right, Classes; lists of lists that are the same. Conditions: none.
-/
namespace Go.Proofs.Ythnpflkpjimkfaa
open Go.AM
open Go.Proofs.Try (prog)
set_option linter.all false
set_option maxRecDepth 100000
set_option maxHeartbeats 8000000
theorem Rch.trans {stp : Nat → List Nat} {i j k : Nat} (h : Rch stp i j) (g : Rch stp j k) : Rch stp i k := by
  induction g with
  | refl => exact h
  | step _ hk ih => exact ih.step hk
section
variable {rows : List (List Int)} {good : List Bool} {k : Nat} {S : SM}
theorem Blw.rf (W : MW rows k S) {lf rt : Bool} {i : Nat} (hi : i < S.1.length) : Blw rows S k lf rt i i := ⟨[], [], okW_nil k, okW_nil k, fun _ => rfl, fun _ => rfl, by simpa using W.self hi⟩
theorem Blw.tr (v : VB rows good k) (W : MW rows k S) {lf rt : Bool} {i j l : Nat} (hi : i < S.1.length) (hj : j < S.1.length) (h : Blw rows S k lf rt i j) (g : Blw rows S k lf rt j l) : Blw rows S k lf rt i l :=
  blw_of_rch v W hi ((rch_of_blw v W hi h).trans (rch_of_blw v W hj g))
open Classical in
noncomputable def eqB (rows : List (List Int)) (S : SM) (k : Nat) (lf rt : Bool) (i j : Nat) : Bool := decide (Blw rows S k lf rt i j) && decide (Blw rows S k lf rt j i)
theorem eqB_eqv (v : VB rows good k) (W : MW rows k S) (lf rt : Bool) : Eqv (eqB rows S k lf rt) S.1.length := by
  refine ⟨fun i hi => ?_, fun i j _ _ h => ?_, fun i j l hi hj hl h g => ?_⟩
  · simp [eqB, Blw.rf W hi]
  · simp only [eqB, Bool.and_eq_true, decide_eq_true_eq] at h ⊢
    exact ⟨h.2, h.1⟩
  · simp only [eqB, Bool.and_eq_true, decide_eq_true_eq] at h g ⊢
    exact ⟨h.1.tr v W hi hj g.1, g.2.tr v W hl hj h.2⟩
end
noncomputable def clsM (rows : List (List Int)) (S : SM) (k : Nat) (lf rt : Bool) : List (List Nat) := clsL (eqB rows S k lf rt) S.1.length
theorem classed_spec {nv gv : AV} {ps : List AV} {rows : List (List Int)} {good : List Bool} (hn : IsRows nv ps rows) (hg : IsB gv good) (hl : rows.length ≤ 1000) (hgl : good.length ≤ 1000) (hr : ∀ i, i < rows.length → (cth rows i).length ≤ 1000) (lf rt : Bool) (m : Mem) :
    denC prog ann 76 [.agg [nv, gv], .bool lf, .bool rt] m = some (if validB rows good = true then (match madeB rows good (cth rows 0).length with | some S => .tup [clsV S (clsM (rowsM rows good (cth rows 0).length) S (cth rows 0).length lf rt), .int .i64 0] | none => .tup [.nils, .int .i64 7]) else .tup [.nils, .int .i64 1], m) := by
  have h1 := fun m => made_spec hn hg hl hgl hr m
  rw [brand_classed.call_eq _ _ _ _ (by simp [hn.closed, hg.closed])]
  cases c0 : validB rows good with
  | false =>
    rw [c0] at h1
    simp [hn.one, hg.one, hn.closed, hg.closed, h1]
    done
  | true =>
    rw [c0, if_pos rfl] at h1
    have v := VB.of c0
    cases e : madeB rows good (cth rows 0).length with
    | none =>
      rw [e] at h1
      simp only [mdR] at h1
      simp [hn.one, hg.one, hn.closed, hg.closed, h1]
      done
    | some S =>
      have W := MW_of v e
      have vm := VB_M v
      rw [e] at h1
      simp only [mdR, monV] at h1
      have hc := fun m => classes_spec (isRows_M rows good (cth rows 0).length) (isB_M rows good (cth rows 0).length) vm W lf rt (E := eqB (rowsM rows good (cth rows 0).length) S (cth rows 0).length lf rt) (fun i j hi hj => by rw [(belM_law vm W lf rt).2 i j hi hj, (belM_law vm W lf rt).2 j i hj hi, eqB]) (eqB_eqv vm W lf rt) m
      simp only [monV, clsV] at hc
      simp [hn.one, hg.one, hn.closed, hg.closed, h1, hc, clsV, clsM]
      done
def IsSS (v : AV) (l : List (List (List UInt8))) : Prop := (v = .nils ∧ l = []) ∨ ∃ ex cs, v = .fsl ex l.length cs ∧ cs.length = l.length ∧ ∀ i (hi : i < l.length), ∃ x, cs[i]? = some x ∧ IsS x l[i]
theorem IsSS.len {v : AV} {l : List (List (List UInt8))} (h : IsSS v l) : lenSl v = some (.int .i64 l.length) := by rcases h with ⟨rfl, rfl⟩ | ⟨_, _, rfl, _⟩ <;> rfl
theorem IsSS.closed {v : AV} {l : List (List (List UInt8))} (h : IsSS v l) : v.closed = true := by rcases h with ⟨rfl, rfl⟩ | ⟨_, _, rfl, _⟩ <;> rfl
theorem IsSS.one {v : AV} {l : List (List (List UInt8))} (h : IsSS v l) : v.one = true := by rcases h with ⟨rfl, rfl⟩ | ⟨_, _, rfl, _⟩ <;> rfl
theorem IsSS.at {v : AV} {l : List (List (List UInt8))} (h : IsSS v l) {i : Nat} (hi : i < l.length) : ∃ cs x, idxSl 1 v (.int .i64 (i : Int)) = some (.fptr cs) ∧ cs.head? = some x ∧ IsS x l[i] := by
  rcases h with ⟨rfl, rfl⟩ | ⟨_, cs, rfl, h1, h2⟩
  · simp at hi
  · obtain ⟨x, hx, hs⟩ := h2 i hi
    exact ⟨cs.drop i, x, by simp [hi], by rw [List.head?_drop]; exact hx, hs⟩
theorem clsL_few (E : Nat → Nat → Bool) (n : Nat) : (clsL E n).length ≤ n ∧ ∀ c ∈ clsL E n, c.length ≤ n := by
  refine ⟨?_, fun c hc => ?_⟩
  · have := List.length_filter_le (frstB E) (List.range n)
    simpa [clsL, clsR] using this
  · simp only [clsL, clsR, List.mem_map] at hc
    obtain ⟨i, _, rfl⟩ := hc
    have := List.length_filter_le (E i) (List.range n)
    simpa using this
end Go.Proofs.Ythnpflkpjimkfaa

/-
  BELOW: the specification's. Conditions: none.
-/
namespace Go.Proofs.Ythnpflkpjimkfaa
open Go.AM
open Go.Proofs.Try (prog)
set_option linter.all false
set_option maxRecDepth 100000
set_option maxHeartbeats 8000000
theorem pt_head {rows : List (List Int)} {S : SM} {i : Nat} (hi : i < S.1.length) : ((ptT rows S S.1.length).drop i).head? = some (ptF rows S i) := by
  rw [List.head?_drop]; simp [ptT, hi]
theorem ptr_head {rows : List (List Int)} {S : SM} {i j : Nat} (hj : j < S.1.length) : ((ptR rows S i S.1.length).drop j).head? = some (.int .i64 (pr rows S i j : Nat)) := by
  rw [List.head?_drop]; simp [ptR, natV, hj]
theorem pr_lt {rows : List (List Int)} {good : List Bool} {k : Nat} (v : VB rows good k) {S : SM} (W : MW rows k S) {i j : Nat} (hi : i < S.1.length) (hj : j < S.1.length) : pr rows S i j < S.1.length := by
  obtain ⟨_, w1, _, _⟩ := W.wok hi
  obtain ⟨_, w2, _, _⟩ := W.wok hj
  exact W.lt v.n6 v.k3 (okW_app w1 w2)
def mkW (rows : List (List Int)) (S : SM) (t c w : Nat) (row : List Bool) : List Bool := (List.range' w c).foldl (fun r w => r.set (pr rows S t w) true) row
def mkZ1 (rows : List (List Int)) (S : SM) (kd y : Nat) (row : List Bool) (z : Nat) : List Bool :=
  if kd = 0 then row.set (pr rows S z y) true else if kd = 1 then row.set (pr rows S y z) true else
    if bnth row (pr rows S z y) = false ∨ z = 0 then mkW rows S (pr rows S z y) S.1.length 0 row else row
def mkZ (rows : List (List Int)) (S : SM) (kd y c z : Nat) (row : List Bool) : List Bool := (List.range' z c).foldl (mkZ1 rows S kd y) row
def rowK (rows : List (List Int)) (S : SM) (kd y : Nat) : List Bool := mkZ rows S kd y S.1.length 0 (List.replicate S.1.length false)
noncomputable def KY0 : List Item := [.code r07_Monoid_below.r20, .code .ret]
noncomputable def KY2 : List Item := .code r07_Monoid_below.r19 :: .inBlock 1 :: .code r07_Monoid_below.r4 :: .inLoop r07_Monoid_below.l0 :: .inBlock 0 :: KY0
theorem mkW_succ (rows : List (List Int)) (S : SM) (t c w : Nat) (row : List Bool) : mkW rows S t (c + 1) w row = mkW rows S t c (w + 1) (row.set (pr rows S t w) true) := by rw [mkW, List.range'_succ, List.foldl_cons, mkW]
theorem mkZ_succ (rows : List (List Int)) (S : SM) (kd y c z : Nat) (row : List Bool) : mkZ rows S kd y (c + 1) z row = mkZ rows S kd y c (z + 1) (mkZ1 rows S kd y row z) := by rw [mkZ, List.range'_succ, List.foldl_cons, mkZ]
theorem mkW_len (rows : List (List Int)) (S : SM) (t : Nat) : ∀ (c w : Nat) (row : List Bool), (mkW rows S t c w row).length = row.length
  | 0, _, _ => rfl
  | c + 1, w, row => by rw [mkW_succ, mkW_len rows S t c (w + 1)]; simp
theorem mkZ1_len (rows : List (List Int)) (S : SM) (kd y : Nat) (row : List Bool) (z : Nat) : (mkZ1 rows S kd y row z).length = row.length := by
  unfold mkZ1
  split
  · simp
  · split
    · simp
    · split
      · rw [mkW_len]
      · rfl
theorem be_w {rows : List (List Int)} {good : List Bool} {k : Nat} (v : VB rows good k) {S : SM} (W : MW rows k S) {x1 o : AV} {y z R : Nat} (hy : y < S.1.length) (hz : z < S.1.length) {K : List Item} {h : Nat → Option AObj} {nx0 : Nat} :
    ∀ (c w : Nat) (row : List Bool), w + c = S.1.length → row.length = S.1.length →
    r07_Monoid_below.L5 x1 (ptV rows S) o (.int .i64 y) (.sl R 1 0 S.1.length S.1.length) (.int .i64 z) (.int .i64 w) ⟨upd h R (some (.cells (bls row))), nx0⟩ K = r07_Monoid_below.L5 x1 (ptV rows S) o (.int .i64 y) (.sl R 1 0 S.1.length S.1.length) (.int .i64 z) (.int .i64 S.1.length) ⟨upd h R (some (.cells (bls (mkW rows S (pr rows S z y) c w row)))), nx0⟩ K := by
  intro c
  have hle := W.ok.le
  induction c with
  | zero =>
    intro w row h1 hl
    have e : w = S.1.length := by omega
    subst e
    rfl
  | succ c ih =>
    intro w row h1 hl
    have hw : w < S.1.length := by omega
    have hww : IntKind.wrap .i64 ((w : Int) + 1) = (w : Int) + 1 := wrap_id (by omega) (by omega)
    have t1 := pt_head (rows := rows) hz
    have t2 := ptr_head (rows := rows) (i := z) hy
    have ht := pr_lt v W hz hy
    have t3 := pt_head (rows := rows) ht
    have t4 := ptr_head (rows := rows) (i := pr rows S z y) hw
    have hp := pr_lt v W ht hw
    have st := ih (w + 1) (row.set (pr rows S (pr rows S z y) w) true) (by omega) (by simp [hl])
    simp only [Int.natCast_add, Int.cast_ofNat_Int] at st
    rw [mkW_succ, ← st, r07_Monoid_below.L5_eq]
    simp only [ptV]
    simp only [ptF] at t1 t3
    simp [hw, hz, hy, t1, t2, ht, t3, t4, hp, hl, bls_set, hww, -List.head?_drop]
    done
theorem be_z {rows : List (List Int)} {good : List Bool} {k : Nat} (v : VB rows good k) {S : SM} (W : MW rows k S) {o : AV} {y R kd : Nat} (hy : y < S.1.length) {h : Nat → Option AObj} {nx0 : Nat} :
    ∀ (c z : Nat) (row : List Bool), z + c = S.1.length → row.length = S.1.length →
    r07_Monoid_below.L2 (.int .i64 (kd : Nat)) (ptV rows S) o (.int .i64 y) (.sl R 1 0 S.1.length S.1.length) (.int .i64 z) ⟨upd h R (some (.cells (bls row))), nx0⟩ KY2 = r07_Monoid_below.L2 (.int .i64 (kd : Nat)) (ptV rows S) o (.int .i64 y) (.sl R 1 0 S.1.length S.1.length) (.int .i64 S.1.length) ⟨upd h R (some (.cells (bls (mkZ rows S kd y c z row)))), nx0⟩ KY2 := by
  intro c
  have hle := W.ok.le
  induction c with
  | zero =>
    intro z row h1 hl
    have e : z = S.1.length := by omega
    subst e
    rfl
  | succ c ih =>
    intro z row h1 hl
    have hz : z < S.1.length := by omega
    have hwz : IntKind.wrap .i64 ((z : Int) + 1) = (z : Int) + 1 := wrap_id (by omega) (by omega)
    have t1 := pt_head (rows := rows) hz
    have t2 := ptr_head (rows := rows) (i := z) hy
    have t3 := pt_head (rows := rows) hy
    have t4 := ptr_head (rows := rows) (i := y) hz
    have ht := pr_lt v W hz hy
    have hp := pr_lt v W hy hz
    have st := ih (z + 1) (mkZ1 rows S kd y row z) (by omega) (by rw [mkZ1_len]; exact hl)
    simp only [Int.natCast_add, Int.cast_ofNat_Int] at st
    rw [mkZ_succ, ← st]
    by_cases k0 : kd = 0
    · have e1 : mkZ1 rows S kd y row z = row.set (pr rows S z y) true := by rw [mkZ1, if_pos k0]
      rw [e1, r07_Monoid_below.L2_eq]
      subst k0
      simp only [ptV]
      simp only [ptF] at t1 t3
      simp [hz, hy, t1, t2, ht, hl, bls_set, hwz, -List.head?_drop]
      done
    · by_cases k1 : kd = 1
      · have e1 : mkZ1 rows S kd y row z = row.set (pr rows S y z) true := by rw [mkZ1, if_neg k0, if_pos k1]
        rw [e1, r07_Monoid_below.L2_eq]
        subst k1
        simp only [ptV]
        simp only [ptF] at t1 t3
        simp [hz, hy, t3, t4, hp, hl, bls_set, hwz, -List.head?_drop]
        done
      · have k0' : ¬ ((kd : Nat) : Int) = 0 := by omega
        have k1' : ¬ ((kd : Nat) : Int) = 1 := by omega
        have hrd : (bls row)[pr rows S z y]? = some (.bool (bnth row (pr rows S z y))) := by
          have : pr rows S z y < row.length := by omega
          simp [bls, bnth, this, List.getD_eq_getElem?_getD]
        have hrl : pr rows S z y < (bls row).length := by simp; omega
        have hrx : (bls row)[pr rows S z y]'hrl = .bool (bnth row (pr rows S z y)) := (List.getElem?_eq_some_iff.1 hrd).2
        by_cases q : bnth row (pr rows S z y) = false ∨ z = 0
        · have e1 : mkZ1 rows S kd y row z = mkW rows S (pr rows S z y) S.1.length 0 row := by rw [mkZ1, if_neg k0, if_neg k1, if_pos q]
          have sw := be_w v W (x1 := .int .i64 (kd : Nat)) (o := o) (R := R) hy hz (K := .inBlock 4 :: .inBlock 3 :: .code r07_Monoid_below.r8 :: .inLoop r07_Monoid_below.l2 :: .inBlock 2 :: KY2) (h := h) (nx0 := nx0) S.1.length 0 row (by omega) hl
          simp only [Int.ofNat_zero, Int.cast_ofNat_Int, ptV] at sw
          have sx : r07_Monoid_below.L5 (.int .i64 (kd : Nat)) (ptV rows S) o (.int .i64 y) (.sl R 1 0 S.1.length S.1.length) (.int .i64 z) (.int .i64 S.1.length) ⟨upd h R (some (.cells (bls (mkW rows S (pr rows S z y) S.1.length 0 row)))), nx0⟩ (.inBlock 4 :: .inBlock 3 :: .code r07_Monoid_below.r8 :: .inLoop r07_Monoid_below.l2 :: .inBlock 2 :: KY2) = r07_Monoid_below.L2 (.int .i64 (kd : Nat)) (ptV rows S) o (.int .i64 y) (.sl R 1 0 S.1.length S.1.length) (.int .i64 ((z : Int) + 1)) ⟨upd h R (some (.cells (bls (mkW rows S (pr rows S z y) S.1.length 0 row)))), nx0⟩ KY2 := by
            rw [r07_Monoid_below.L5_eq]
            simp only [ptV]
            simp [hwz]
            done
          rw [e1, r07_Monoid_below.L2_eq]
          simp only [ptV] at sx ⊢
          simp only [ptF] at t1 t3
          have qc : bnth row (pr rows S z y) = true → z = 0 := fun e => by
            rcases q with q | q
            · rw [e] at q; cases q
            · exact q
          cases eb : bnth row (pr rows S z y) with
          | false =>
            rw [eb] at hrx
            simp [hz, hy, t1, t2, ht, hl, k0, k1, k1', hrx, -List.head?_drop]
            rw [sw, sx]
          | true =>
            obtain rfl : z = 0 := qc eb
            rw [List.drop_zero] at t1
            rw [eb] at hrx
            simp only [Int.ofNat_zero, Int.cast_ofNat_Int] at sw sx
            simp [hz, hy, t1, t2, ht, hl, k0, k1, k1', hrx, -List.head?_drop]
            rw [sw]
            simp at sx
            rw [sx]
        · have e1 : mkZ1 rows S kd y row z = row := by rw [mkZ1, if_neg k0, if_neg k1, if_neg q]
          rw [not_or] at q
          have eb : bnth row (pr rows S z y) = true := by simpa using q.1
          have z0' : ¬ ((z : Nat) : Int) = 0 := by omega
          rw [e1, r07_Monoid_below.L2_eq]
          simp only [ptV]
          simp only [ptF] at t1 t3
          rw [eb] at hrx
          simp [hz, hy, t1, t2, ht, hl, k0, k1, k1', hrx, q.2, hwz, -List.head?_drop]
          done
theorem mkZ_len (rows : List (List Int)) (S : SM) (kd y : Nat) : ∀ (c z : Nat) (row : List Bool), (mkZ rows S kd y c z row).length = row.length
  | 0, _, _ => rfl
  | c + 1, z, row => by rw [mkZ_succ, mkZ_len rows S kd y c (z + 1), mkZ1_len]
theorem rowK_len (rows : List (List Int)) (S : SM) (kd y : Nat) : (rowK rows S kd y).length = S.1.length := by rw [rowK, mkZ_len]; simp
def belT (rows : List (List Int)) (S : SM) (kd c : Nat) : MB := (List.range c).map (rowK rows S kd)
theorem be_y {rows : List (List Int)} {good : List Bool} {k : Nat} (v : VB rows good k) {S : SM} (W : MW rows k S) {kd : Nat} :
    ∀ (c y : Nat) (h : Nat → Option AObj) (nx0 : Nat), y + c = S.1.length → 0 < nx0 → h 0 = some (.cells ((belT rows S kd y).map fun r => AV.fsl false S.1.length (bls r))) →
    r07_Monoid_below.L0 (.int .i64 (kd : Nat)) (ptV rows S) (.sl 0 1 0 y y) (.int .i64 y) ⟨h, nx0⟩ KY0 = some (mbV S.1.length (belT rows S kd S.1.length), Mem.empty) := by
  intro c
  have hle := W.ok.le
  induction c with
  | zero =>
    intro y h nx0 h1 hn h0
    have e : y = S.1.length := by omega
    subst e
    have hl : (belT rows S kd S.1.length).length = S.1.length := by simp [belT]
    have tk : ((belT rows S kd S.1.length).map fun r => AV.fsl false S.1.length (bls r)).take S.1.length = (belT rows S kd S.1.length).map fun r => AV.fsl false S.1.length (bls r) := List.take_of_length_le (by simp [hl])
    have hm : mapO (AM.deep h 5) ((belT rows S kd S.1.length).map fun r => AV.fsl false S.1.length (bls r)) = some ((belT rows S kd S.1.length).map fun r => AV.fsl false S.1.length (bls r)) := mapO_same _ (fun x hx => by
      simp only [List.mem_map] at hx
      obtain ⟨q, _, rfl⟩ := hx
      rfl)
    rw [r07_Monoid_below.L0_eq]
    simp only [ptV]
    simp [KY0, h0, hl, tk, hm, mbV, -List.map_take]
    done
  | succ c ih =>
    intro y h nx0 h1 hn h0
    have hy : y < S.1.length := by omega
    have hwy : IntKind.wrap .i64 ((y : Int) + 1) = (y : Int) + 1 := wrap_id (by omega) (by omega)
    have hlt : (belT rows S kd y).length = y := by simp [belT]
    have sz := be_z v W (o := .sl 0 1 0 y y) (R := nx0) (kd := kd) hy (h := h) (nx0 := nx0 + 1) S.1.length 0 (List.replicate S.1.length false) (by omega) (by simp)
    simp only [Int.ofNat_zero, Int.cast_ofNat_Int] at sz
    have eb0 : bls (List.replicate S.1.length false) = List.replicate S.1.length (.bool false) := by simp [bls]
    rw [eb0] at sz
    have rl := rowK_len rows S kd y
    have tk : (bls (rowK rows S kd y)).take S.1.length = bls (rowK rows S kd y) := List.take_of_length_le (by simp [rl])
    have e1 : ((belT rows S kd y).map fun r => AV.fsl false S.1.length (bls r)) ++ [.fsl false S.1.length (bls (rowK rows S kd y))] = (belT rows S kd (y + 1)).map fun r => AV.fsl false S.1.length (bls r) := by simp [belT, List.range_succ]
    have hl1 : ((belT rows S kd (y + 1)).map fun r => AV.fsl false S.1.length (bls r)).length = y + 1 := by simp [belT]
    have hz : (0 == nx0) = false := beq_eq_false_iff_ne.2 (by omega)
    have h0' : (upd (upd h nx0 (some (.cells (bls (rowK rows S kd y))))) nx0 none) 0 = some (.cells ((belT rows S kd y).map fun r => AV.fsl false S.1.length (bls r))) := by rw [updNe (by omega), updNe (by omega), h0]
    have st := ih (y + 1) (upd (upd (upd h nx0 (some (.cells (bls (rowK rows S kd y))))) nx0 none) 0 (some (.cells ((belT rows S kd (y + 1)).map fun r => AV.fsl false S.1.length (bls r))))) (nx0 + 1) (by omega) (by omega) (by simp)
    simp only [Int.natCast_add, Int.cast_ofNat_Int] at st
    have sx : r07_Monoid_below.L2 (.int .i64 (kd : Nat)) (ptV rows S) (.sl 0 1 0 y y) (.int .i64 y) (.sl nx0 1 0 S.1.length S.1.length) (.int .i64 S.1.length) ⟨upd h nx0 (some (.cells (bls (rowK rows S kd y)))), nx0 + 1⟩ KY2 = some (mbV S.1.length (belT rows S kd S.1.length), Mem.empty) := by
      rw [r07_Monoid_below.L2_eq]
      simp only [ptV] at st ⊢
      simp [KY2, rl, tk, hz, h0, hlt, e1, hl1, hwy, show y ≤ 4611686018427387903 by omega, show (y + 1) * 24 ≤ 70368744177664 by omega]
      first
        | exact st
        | (simp at st; exact st)
        | (simp at st; simp [st])
    rw [r07_Monoid_below.L0_eq]
    simp only [ptV, rowK, KY2] at sz sx ⊢
    simp [hy, show S.1.length ≤ 4611686018427387904 by omega, show S.1.length ≤ 70368744177664 by omega]
    rw [sz, sx]
theorem below77_spec {rows : List (List Int)} {good : List Bool} {k : Nat} (v : VB rows good k) {S : SM} (W : MW rows k S) (kd : Nat) (m : Mem) :
    denC prog ann 77 [ofV rows.length S, .int .i64 (kd : Nat)] m = some (mbV S.1.length (belT rows S kd S.1.length), m) := by
  have ht := fun m => table90_spec v W m
  have lp := be_y v W (kd := kd) S.1.length 0 (upd Mem.empty.h 0 (some (.cells []))) 1 (by omega) (by omega) (by simp [belT])
  simp only [Int.ofNat_zero, Int.cast_ofNat_Int, KY0] at lp
  rw [ofV_eq, r07_Monoid_below.call_eq _ _ _ (by simp [ofD, wdsV])]
  rw [ofV_eq] at ht
  simp only [ofD, wdsV, ptV] at ht lp ⊢
  simp at ht
  simp [ht, lp]
  done
end Go.Proofs.Ythnpflkpjimkfaa

/-
  BELOW: what the specification's marks mean. Conditions: none.
-/
namespace Go.Proofs.Ythnpflkpjimkfaa
open Go.AM
open Go.Proofs.Try (prog)
set_option linter.all false
set_option maxRecDepth 100000
set_option maxHeartbeats 8000000
section
variable {rows : List (List Int)} {good : List Bool} {k : Nat} {S : SM}
theorem num_l (v : VB rows good k) {w w' x : List UInt8} (hw : okW k w) (hw' : okW k w') (h : mv6 rows w = mv6 rows w') : numM rows S (w ++ x) = numM rows S (w' ++ x) := by
  have := num_congr (S := S) v (u := []) (x := x) (okW_nil k) hw hw' h
  simpa using this
theorem num_r (v : VB rows good k) {u w w' : List UInt8} (hu : okW k u) (hw : okW k w) (hw' : okW k w') (h : mv6 rows w = mv6 rows w') : numM rows S (u ++ w) = numM rows S (u ++ w') := by
  have := num_congr (S := S) v (u := u) (x := []) hu hw hw' h
  simpa using this
theorem wrd_ok (W : MW rows k S) {i : Nat} (hi : i < S.1.length) : okW k (wrd S i) := (W.wok hi).2.1
theorem pr_nums (v : VB rows good k) (W : MW rows k S) {u w : List UInt8} (hu : okW k u) (hw : okW k w) : pr rows S (numM rows S u) (numM rows S w) = numM rows S (u ++ w) := by
  have n6 := v.n6
  have k3 := v.k3
  have o1 := wrd_ok W (W.lt n6 k3 hu)
  have o2 := wrd_ok W (W.lt n6 k3 hw)
  rw [pr, num_l v o1 hu (wrd_num v W hu), num_r v hu o2 hw (wrd_num v W hw)]
theorem pr_numl (v : VB rows good k) (W : MW rows k S) {u : List UInt8} {j : Nat} (hu : okW k u) (hj : j < S.1.length) : pr rows S (numM rows S u) j = numM rows S (u ++ wrd S j) := by
  have n6 := v.n6
  have k3 := v.k3
  have o1 := wrd_ok W (W.lt n6 k3 hu)
  rw [pr, num_l v o1 hu (wrd_num v W hu)]
theorem pr_numr (v : VB rows good k) (W : MW rows k S) {u : List UInt8} {j : Nat} (hu : okW k u) (hj : j < S.1.length) : pr rows S j (numM rows S u) = numM rows S (wrd S j ++ u) := by
  have n6 := v.n6
  have k3 := v.k3
  have o1 := wrd_ok W (W.lt n6 k3 hu)
  rw [pr, num_r v (wrd_ok W hj) o1 hu (wrd_num v W hu)]
theorem pr_assoc (v : VB rows good k) (W : MW rows k S) {a b c : Nat} (ha : a < S.1.length) (hb : b < S.1.length) (hc : c < S.1.length) : pr rows S (pr rows S a b) c = pr rows S a (pr rows S b c) := by
  have oa := wrd_ok W ha
  have ob := wrd_ok W hb
  have oc := wrd_ok W hc
  show pr rows S (numM rows S (wrd S a ++ wrd S b)) c = pr rows S a (numM rows S (wrd S b ++ wrd S c))
  rw [pr_numl v W (okW_app oa ob) hc, pr_numr v W (okW_app ob oc) ha, List.append_assoc]
theorem blw_l (v : VB rows good k) (W : MW rows k S) {y j : Nat} (hy : y < S.1.length) : Blw rows S k true false y j ↔ ∃ z, z < S.1.length ∧ pr rows S z y = j := by
  constructor
  · rintro ⟨u, w, hu, hw, _, e, h⟩
    obtain rfl := e rfl
    refine ⟨numM rows S u, W.lt v.n6 v.k3 hu, ?_⟩
    rw [pr_numl v W hu hy, ← h, List.append_nil]
  · rintro ⟨z, hz, h⟩
    refine ⟨wrd S z, [], wrd_ok W hz, okW_nil k, (by simp), (by simp), ?_⟩
    rw [List.append_nil]; exact h
theorem blw_r (v : VB rows good k) (W : MW rows k S) {y j : Nat} (hy : y < S.1.length) : Blw rows S k false true y j ↔ ∃ z, z < S.1.length ∧ pr rows S y z = j := by
  constructor
  · rintro ⟨u, w, hu, hw, e, _, h⟩
    obtain rfl := e rfl
    refine ⟨numM rows S w, W.lt v.n6 v.k3 hw, ?_⟩
    rw [pr_numr v W hw hy, ← h, List.nil_append]
  · rintro ⟨z, hz, h⟩
    refine ⟨[], wrd S z, okW_nil k, wrd_ok W hz, (by simp), (by simp), ?_⟩
    rw [List.nil_append]; exact h
theorem blw_b (v : VB rows good k) (W : MW rows k S) {y j : Nat} (hy : y < S.1.length) : Blw rows S k true true y j ↔ ∃ z, z < S.1.length ∧ ∃ w, w < S.1.length ∧ pr rows S (pr rows S z y) w = j := by
  constructor
  · rintro ⟨u, w, hu, hw, _, _, h⟩
    refine ⟨numM rows S u, W.lt v.n6 v.k3 hu, numM rows S w, W.lt v.n6 v.k3 hw, ?_⟩
    rw [pr_numl v W hu hy, pr_nums v W (okW_app hu (wrd_ok W hy)) hw, h]
  · rintro ⟨z, hz, w, hw, h⟩
    refine ⟨wrd S z, wrd S w, wrd_ok W hz, wrd_ok W hw, (by simp), (by simp), ?_⟩
    have : pr rows S (numM rows S (wrd S z ++ wrd S y)) w = j := h
    rw [pr_numl v W (okW_app (wrd_ok W hz) (wrd_ok W hy)) hw] at this
    exact this
theorem mkW_law {t : Nat} : ∀ (c w : Nat) (row : List Bool), (∀ w', w' < w + c → pr rows S t w' < row.length) → ∀ j, (bnth (mkW rows S t c w row) j = true ↔ bnth row j = true ∨ ∃ w', w ≤ w' ∧ w' < w + c ∧ pr rows S t w' = j)
  | 0, w, row, _, j => by
    constructor
    · intro h; exact .inl h
    · rintro (h | ⟨w', h1, h2, _⟩)
      · exact h
      · omega
  | c + 1, w, row, h, j => by
    rw [mkW_succ, mkW_law c (w + 1) (row.set (pr rows S t w) true) (fun w' hw' => by rw [List.length_set]; exact h w' (by omega)) j, bnth_set (h w (by omega))]
    constructor
    · rintro (q | ⟨w', q1, q2, q3⟩)
      · by_cases e : pr rows S t w = j
        · exact .inr ⟨w, by omega, by omega, e⟩
        · rw [if_neg e] at q; exact .inl q
      · exact .inr ⟨w', by omega, by omega, q3⟩
    · rintro (q | ⟨w', q1, q2, q3⟩)
      · left
        by_cases e : pr rows S t w = j
        · rw [if_pos e]
        · rw [if_neg e]; exact q
      · by_cases e : w' = w
        · subst e
          left; rw [if_pos q3]
        · exact .inr ⟨w', by omega, by omega, q3⟩
def MkP (rows : List (List Int)) (S : SM) (kd y z j : Nat) : Prop :=
  if kd = 0 then ∃ z', z' < z ∧ pr rows S z' y = j else if kd = 1 then ∃ z', z' < z ∧ pr rows S y z' = j else ∃ z', z' < z ∧ ∃ w, w < S.1.length ∧ pr rows S (pr rows S z' y) w = j
theorem mkZ1_law (v : VB rows good k) (W : MW rows k S) {kd y z : Nat} (hy : y < S.1.length) (hz : z < S.1.length) {row : List Bool} (hl : row.length = S.1.length) (h : ∀ j, bnth row j = true ↔ MkP rows S kd y z j) : ∀ j, bnth (mkZ1 rows S kd y row z) j = true ↔ MkP rows S kd y (z + 1) j := by
  intro j
  have l1 := pr_lt v W hz hy
  have l2 := pr_lt v W hy hz
  have hj := h j
  unfold mkZ1
  by_cases k0 : kd = 0
  · simp only [MkP, if_pos k0] at hj ⊢
    rw [bnth_set (by omega)]
    by_cases e : pr rows S z y = j
    · rw [if_pos e]
      exact ⟨fun _ => ⟨z, by omega, e⟩, fun _ => rfl⟩
    · rw [if_neg e, hj]
      exact ⟨fun ⟨z', a, b⟩ => ⟨z', by omega, b⟩, fun ⟨z', a, b⟩ => ⟨z', by
        by_cases e2 : z' = z
        · subst e2; exact absurd b e
        · omega, b⟩⟩
  · by_cases k1 : kd = 1
    · simp only [MkP, if_neg k0, if_pos k1] at hj ⊢
      rw [bnth_set (by omega)]
      by_cases e : pr rows S y z = j
      · rw [if_pos e]
        exact ⟨fun _ => ⟨z, by omega, e⟩, fun _ => rfl⟩
      · rw [if_neg e, hj]
        exact ⟨fun ⟨z', a, b⟩ => ⟨z', by omega, b⟩, fun ⟨z', a, b⟩ => ⟨z', by
          by_cases e2 : z' = z
          · subst e2; exact absurd b e
          · omega, b⟩⟩
    · have hp := h (pr rows S z y)
      simp only [MkP, if_neg k0, if_neg k1] at hj hp ⊢
      by_cases q : bnth row (pr rows S z y) = false ∨ z = 0
      · rw [if_pos q, mkW_law _ _ _ (fun w' hw' => by rw [hl]; exact pr_lt v W l1 (by omega)), hj]
        constructor
        · rintro (⟨z', a, b⟩ | ⟨w, a, b, c⟩)
          · exact ⟨z', by omega, b⟩
          · exact ⟨z, by omega, w, by omega, c⟩
        · rintro ⟨z', a, w, b, c⟩
          by_cases e : z' = z
          · subst e; exact .inr ⟨w, by omega, by omega, c⟩
          · exact .inl ⟨z', by omega, w, b, c⟩
      · rw [if_neg q, hj]
        rw [not_or] at q
        have qt : bnth row (pr rows S z y) = true := by simpa using q.1
        obtain ⟨z0, a0, w0, b0, c0⟩ := hp.1 qt
        constructor
        · rintro ⟨z', a, b⟩
          exact ⟨z', by omega, b⟩
        · rintro ⟨z', a, w, b, c⟩
          by_cases e : z' = z
          · subst e
            have hz0 : z0 < S.1.length := by omega
            refine ⟨z0, a0, pr rows S w0 w, pr_lt v W b0 b, ?_⟩
            rw [← pr_assoc v W (pr_lt v W hz0 hy) b0 b, c0, c]
          · exact ⟨z', by omega, w, b, c⟩
theorem mkZ_law (v : VB rows good k) (W : MW rows k S) {kd y : Nat} (hy : y < S.1.length) : ∀ (c z : Nat) (row : List Bool), z + c = S.1.length → row.length = S.1.length → (∀ j, bnth row j = true ↔ MkP rows S kd y z j) → ∀ j, bnth (mkZ rows S kd y c z row) j = true ↔ MkP rows S kd y S.1.length j
  | 0, z, row, e, hl, h => by
    have : z = S.1.length := by omega
    subst this; exact h
  | c + 1, z, row, e, hl, h => by
    rw [mkZ_succ]
    exact mkZ_law v W hy c (z + 1) _ (by omega) (by rw [mkZ1_len, hl]) (mkZ1_law v W hy (by omega) hl h)
def lfK (kd : Nat) : Bool := decide (kd ≠ 1)
def rtK (kd : Nat) : Bool := decide (kd ≠ 0)
theorem belT_law (v : VB rows good k) (W : MW rows k S) (kd : Nat) {y j : Nat} (hy : y < S.1.length) : mth (belT rows S kd S.1.length) y j = true ↔ Blw rows S k (lfK kd) (rtK kd) y j := by
  have e : brw (belT rows S kd S.1.length) y = rowK rows S kd y := by simp [brw, belT, hy, List.getD_eq_getElem?_getD]
  rw [mth, e, rowK, mkZ_law v W hy S.1.length 0 _ (by omega) (by simp) (fun j => by
    constructor
    · intro h
      simp [bnth, List.getD_eq_getElem?_getD, List.getElem?_replicate] at h
      split at h <;> simp at h
    · intro h
      exfalso
      unfold MkP at h
      split at h
      · obtain ⟨_, h, _⟩ := h; omega
      · split at h
        · obtain ⟨_, h, _⟩ := h; omega
        · obtain ⟨_, h, _⟩ := h; omega)]
  unfold MkP
  by_cases k0 : kd = 0
  · subst k0
    rw [if_pos rfl]
    exact (blw_l v W hy).symm
  · by_cases k1 : kd = 1
    · subst k1
      rw [if_neg (by omega), if_pos rfl]
      exact (blw_r v W hy).symm
    · rw [if_neg k0, if_neg k1, show lfK kd = true by simp [lfK, k1], show rtK kd = true by simp [rtK, k0]]
      exact (blw_b v W hy).symm
theorem belT_wf (rows : List (List Int)) (S : SM) (kd : Nat) : Wf S.1.length (belT rows S kd S.1.length) := ⟨by simp [belT], fun i hi => by
  have e : brw (belT rows S kd S.1.length) i = rowK rows S kd i := by simp [brw, belT, hi, List.getD_eq_getElem?_getD]
  rw [e, rowK_len]⟩
open Classical in
theorem belT_eqB (v : VB rows good k) (W : MW rows k S) (kd : Nat) {i j : Nat} (hi : i < S.1.length) (hj : j < S.1.length) : (mth (belT rows S kd S.1.length) i j && mth (belT rows S kd S.1.length) j i) = eqB rows S k (lfK kd) (rtK kd) i j := by
  rw [Bool.eq_iff_iff, Bool.and_eq_true, belT_law v W kd hi, belT_law v W kd hj, eqB, Bool.and_eq_true]
  simp only [decide_eq_true_eq]
end
end Go.Proofs.Ythnpflkpjimkfaa

/-
  CLASSES: the specification's, as numbers. Conditions: none.
-/
namespace Go.Proofs.Ythnpflkpjimkfaa
open Go.AM
open Go.Proofs.Try (prog)
set_option linter.all false
set_option maxRecDepth 100000
set_option maxHeartbeats 8000000
def natL (c : List Nat) : List AV := c.map natV
def clN (c : List Nat) : AV := .fsl false c.length (natL c)
def clsNV (l : List (List Nat)) : AV := .fsl false l.length (l.map clN)
@[simp] theorem natL_len (c : List Nat) : (natL c).length = c.length := by simp [natL]
theorem natL_closed (c : List Nat) : closedL (natL c) = true := by
  induction c with
  | nil => rfl
  | cons a c ih => simp only [natL, List.map_cons, closedL] at ih ⊢; rw [ih]; rfl
noncomputable def KZ0 : List Item := [.code r07_Monoid_Classes.r13, .code .ret]
noncomputable def KZ2 : List Item := .code r07_Monoid_Classes.r12 :: .inBlock 1 :: .code r07_Monoid_Classes.r4 :: .inLoop r07_Monoid_Classes.l0 :: .inBlock 0 :: KZ0
theorem rz_in {n : Nat} (hn : n ≤ 400) {D : MB} (hD : Wf n D) {E : Nat → Nat → Bool} (hE : ∀ i j, i < n → j < n → (mth D i j && mth D j i) = E i j) {Z R x : Nat} (hx : x < n) (hZR : Z ≠ R) {o : AV} {r : Option Res} :
    ∀ (c y : Nat) (h : Nat → Option AObj) (nx0 : Nat) (sn : List Bool), y + c = n → x ≤ y → h Z = some (.cells (bls sn)) → sn.length = n → h R = some (.cells (natL ((List.range' x (y - x)).filter (E x)))) →
    (∀ h' sn', h' Z = some (.cells (bls sn')) → sn'.length = n → (∀ j, j < n → bnth sn' j = (bnth sn j || (decide (y ≤ j) && E x j))) → h' R = some (.cells (natL ((List.range' x (n - x)).filter (E x)))) → (∀ z, z ≠ Z → z ≠ R → h' z = h z) →
      r07_Monoid_Classes.L2 (mbV n D) (.sl Z 1 0 n n) o (.int .i64 x) (.sl R 1 0 ((List.range' x (n - x)).filter (E x)).length ((List.range' x (n - x)).filter (E x)).length) (.int .i64 n) ⟨h', nx0⟩ KZ2 = r) →
    r07_Monoid_Classes.L2 (mbV n D) (.sl Z 1 0 n n) o (.int .i64 x) (.sl R 1 0 ((List.range' x (y - x)).filter (E x)).length ((List.range' x (y - x)).filter (E x)).length) (.int .i64 y) ⟨h, nx0⟩ KZ2 = r := by
  intro c
  induction c with
  | zero =>
    intro y h nx0 sn h1 hxy hz hl hR hk
    have e : y = n := by omega
    subst e
    exact hk h sn hz hl (fun j hj => by rw [show decide (y ≤ j) = false from decide_eq_false (by omega)]; simp) hR (fun _ _ _ => rfl)
  | succ c ih =>
    intro y h nx0 sn h1 hxy hz hl hR hk
    have hy : y < n := by omega
    have hwy : IntKind.wrap .i64 ((y : Int) + 1) = (y : Int) + 1 := wrap_id (by omega) (by omega)
    have m1 := mbV_head (n := n) (i := x) (L := D) (by rw [hD.l]; exact hx)
    have m2 := mbV_head (n := n) (i := y) (L := D) (by rw [hD.l]; exact hy)
    have b1 := bls_head (bs := brw D x) (i := y) (by rw [hD.r x hx]; exact hy)
    have b2 := bls_head (bs := brw D y) (i := x) (by rw [hD.r y hy]; exact hx)
    have q1 : bnth (brw D x) y = mth D x y := rfl
    have q2 : bnth (brw D y) x = mth D y x := rfl
    rw [q1] at b1
    rw [q2] at b2
    have hExy := hE x y hx hy
    have hflt : (List.range' x (y + 1 - x)).filter (E x) = (List.range' x (y - x)).filter (E x) ++ if E x y = true then [y] else [] := by
      rw [show y + 1 - x = (y - x) + 1 by omega, List.range'_concat, List.filter_append]
      rw [show x + 1 * (y - x) = y by omega]
      by_cases q : E x y = true <;> simp [q]
    have hfl : ((List.range' x (y - x)).filter (E x)).length ≤ 400 := by have := List.length_filter_le (E x) (List.range' x (y - x)); simp at this; omega
    cases qE : E x y with
    | false =>
      rw [qE] at hflt hExy
      simp only [Bool.false_eq_true, if_false, List.append_nil] at hflt
      have st := ih (y + 1) h nx0 sn (by omega) (by omega) hz hl (by rw [hflt]; exact hR) (fun h' sn' f1 f2 f3 f4 f5 => hk h' sn' f1 f2 (fun j hj => by
        rw [f3 j hj]
        by_cases e : j = y
        · subst e; rw [qE]; simp
        · congr 2; rw [decide_eq_decide]; omega) f4 f5)
      rw [hflt] at st
      simp only [Int.natCast_add, Int.cast_ofNat_Int] at st
      rw [r07_Monoid_Classes.L2_eq]
      simp only [mbV, hD.l] at st ⊢
      cases e1 : mth D x y with
      | false =>
        rw [e1] at b1
        simp [hy, hx, m1, b1, hwy, -List.head?_drop, -List.map_drop]
        exact st
      | true =>
        rw [e1] at b1
        rw [e1, Bool.true_and] at hExy
        rw [hExy] at b2
        simp [hy, hx, m1, m2, b1, b2, hwy, -List.head?_drop, -List.map_drop]
        exact st
    | true =>
      rw [qE] at hflt hExy
      simp only [if_true] at hflt
      rw [Bool.and_eq_true] at hExy
      rw [hExy.1] at b1
      rw [hExy.2] at b2
      have he : natL ((List.range' x (y - x)).filter (E x)) ++ [.int .i64 (y : Nat)] = natL ((List.range' x (y + 1 - x)).filter (E x)) := by rw [hflt]; simp [natL, natV]
      have hl1 : ((List.range' x (y + 1 - x)).filter (E x)).length = ((List.range' x (y - x)).filter (E x)).length + 1 := by rw [hflt]; simp
      have hRl : (natL ((List.range' x (y - x)).filter (E x))).length = ((List.range' x (y - x)).filter (E x)).length := by simp
      have hz' : (upd h R (some (.cells (natL ((List.range' x (y + 1 - x)).filter (E x)))))) Z = some (.cells (bls sn)) := by rw [updNe hZR, hz]
      have st := ih (y + 1) (upd (upd h R (some (.cells (natL ((List.range' x (y + 1 - x)).filter (E x)))))) Z (some (.cells (bls (sn.set y true))))) nx0 (sn.set y true) (by omega) (by omega) (by simp) (by simp [hl]) (by rw [updNe (Ne.symm hZR)]; simp) (fun h' sn' f1 f2 f3 f4 f5 => hk h' sn' f1 f2 (fun j hj => by
        rw [f3 j hj, bnth_set (by omega)]
        by_cases e : y = j
        · subst e; rw [if_pos rfl, qE]; simp
        · rw [if_neg e]; congr 2; rw [decide_eq_decide]; omega) f4 (fun z z1 z2 => by rw [f5 z z1 z2, updNe z1, updNe z2]))
      rw [hl1] at st
      generalize hF : ((List.range' x (y - x)).filter (E x)) = F at *
      simp only [Int.natCast_add, Int.cast_ofNat_Int] at st
      rw [r07_Monoid_Classes.L2_eq]
      simp only [mbV, hD.l] at st ⊢
      simp [hy, hx, m1, m2, b1, b2, hR, he, hl1, beq_eq_false_iff_ne.2 hZR, hz, hl, bls_set, hwy, show F.length ≤ 4611686018427387903 by omega, show (F.length + 1) * 8 ≤ 70368744177664 by omega, -List.head?_drop, -List.map_drop]
      exact st
theorem rz_out {n : Nat} (hn : n ≤ 400) {D : MB} (hD : Wf n D) {E : Nat → Nat → Bool} (hE : ∀ i j, i < n → j < n → (mth D i j && mth D j i) = E i j) (eq : Eqv E n) {Z O : Nat} (hZO : Z < O) :
    ∀ (c x : Nat) (h : Nat → Option AObj) (nx0 : Nat) (sn : List Bool), x + c = n → O < nx0 → h Z = some (.cells (bls sn)) → sn.length = n → (∀ j, x ≤ j → j < n → bnth sn j = (List.range x).any fun i => E i j) → h O = some (.cells ((clsR E n x).map clN)) →
    r07_Monoid_Classes.L0 (mbV n D) (.sl Z 1 0 n n) (.sl O 1 0 (clsR E n x).length (clsR E n x).length) (.int .i64 x) ⟨h, nx0⟩ KZ0 = some (clsNV (clsL E n), Mem.empty) := by
  intro c
  induction c with
  | zero =>
    intro x h nx0 sn h1 hO hz hl hsn hc
    have e : x = n := by omega
    subst e
    have tk : ((clsR E x x).map clN).take (clsR E x x).length = (clsR E x x).map clN := List.take_of_length_le (by simp)
    have hm : mapO (AM.deep h 5) ((clsR E x x).map clN) = some ((clsR E x x).map clN) := mapO_same _ (fun a ha => by
      simp only [List.mem_map] at ha
      obtain ⟨q, _, rfl⟩ := ha
      rfl)
    rw [r07_Monoid_Classes.L0_eq]
    simp only [mbV, hD.l]
    simp [KZ0, hc, tk, hm, clsNV, clsL, -List.map_take]
    done
  | succ c ih =>
    intro x h nx0 sn h1 hO hz hl hsn hc
    have hx : x < n := by omega
    have hwx : IntKind.wrap .i64 ((x : Int) + 1) = (x : Int) + 1 := wrap_id (by omega) (by omega)
    have hcl : (clsR E n x).length ≤ x := by
      rw [clsR, List.length_map]
      have := List.length_filter_le (frstB E) (List.range x)
      simpa using this
    have hany : ∀ j, ((List.range (x + 1)).any fun i => E i j) = (((List.range x).any fun i => E i j) || E x j) := fun j => by rw [List.range_succ, List.any_append]; simp
    have hsc : (bls sn)[x]? = some (.bool (bnth sn x)) := by
      have : x < sn.length := by omega
      simp [bls, bnth, this, List.getD_eq_getElem?_getD]
    have hsx0 := hsn x (Nat.le_refl _) hx
    cases q : (List.range x).any fun i => E i x with
    | true =>
      rw [q] at hsx0
      rw [hsx0] at hsc
      have hsx := (List.getElem?_eq_some_iff.1 hsc).2
      have hf : frstB E x = false := by rw [frstB, q]; rfl
      have e1 : clsR E n (x + 1) = clsR E n x := by rw [clsR_succ, hf]; simp
      obtain ⟨j0, hj0, hE0⟩ := List.any_eq_true.1 q
      have hj0 : j0 < x := by simpa using hj0
      have st := ih (x + 1) h nx0 sn (by omega) hO hz hl (fun j h1 h2 => by
        rw [hsn j (by omega) h2, hany]
        cases w : E x j with
        | false => simp
        | true =>
          rw [Bool.or_true]
          exact List.any_eq_true.2 ⟨j0, by simpa using hj0, eq.tr j0 x j (by omega) hx h2 hE0 w⟩) (by rw [e1]; exact hc)
      rw [e1] at st
      simp only [Int.natCast_add, Int.cast_ofNat_Int] at st
      rw [r07_Monoid_Classes.L0_eq]
      simp only [mbV, hD.l] at st ⊢
      simp [hx, hz, hl, hsx, hwx]
      exact st
    | false =>
      rw [q] at hsx0
      rw [hsx0] at hsc
      have hsx := (List.getElem?_eq_some_iff.1 hsc).2
      have hf : frstB E x = true := by rw [frstB, q]; rfl
      have e1 : clsR E n (x + 1) = clsR E n x ++ [(List.range n).filter (E x)] := by rw [clsR_succ, hf]; simp
      have low : ∀ j, j < x → E x j = false := fun j hj => by
        cases w : E x j with
        | false => rfl
        | true =>
          have := eq.sy x j hx (by omega) w
          have : ((List.range x).any fun i => E i x) = true := List.any_eq_true.2 ⟨j, by simpa using hj, this⟩
          rw [q] at this; cases this
      have hrg : (List.range n).filter (E x) = (List.range' x (n - x)).filter (E x) := by
        have : List.range n = List.range' 0 x ++ List.range' x (n - x) := by
          rw [List.range_eq_range', show n = x + (n - x) by omega, ← List.range'_append_1]
          simp
        rw [this, List.filter_append]
        have : (List.range' 0 x).filter (E x) = [] := by
          rw [List.filter_eq_nil_iff]
          intro a ha
          have : a < x := by simp [List.mem_range'] at ha; omega
          rw [low a this]; simp
        rw [this, List.nil_append]
      have z0 : natL ((List.range' x (x - x)).filter (E x)) = [] := by simp [natL]
      have z1 : ((List.range' x (x - x)).filter (E x)).length = 0 := by simp
      have hE1 : clsR E n (x + 1) = clsR E n x ++ [(List.range' x (n - x)).filter (E x)] := by rw [e1, hrg]
      have st := rz_in hn hD hE (Z := Z) (R := nx0) (x := x) hx (by omega) (o := .sl O 1 0 (clsR E n x).length (clsR E n x).length) (r := some (clsNV (clsL E n), Mem.empty)) (n - x) x (upd h nx0 (some (.cells []))) (nx0 + 1) sn (by omega) (Nat.le_refl _) (by rw [updNe (by omega), hz]) hl (by rw [z0]; simp) (fun h' sn' f1 f2 f3 f4 f5 => by
        have hO' : h' O = some (.cells ((clsR E n x).map clN)) := by rw [f5 O (by omega) (by omega), updNe (by omega), hc]
        have hOR : (O == nx0) = false := beq_eq_false_iff_ne.2 (by omega)
        have hfl : ((List.range' x (n - x)).filter (E x)).length ≤ 400 := by have := List.length_filter_le (E x) (List.range' x (n - x)); simp at this; omega
        have hclo := natL_closed ((List.range' x (n - x)).filter (E x))
        have hll := natL_len ((List.range' x (n - x)).filter (E x))
        have hE2 : (clsR E n (x + 1)).map clN = (clsR E n x).map clN ++ [.fsl false ((List.range' x (n - x)).filter (E x)).length (natL ((List.range' x (n - x)).filter (E x)))] := by rw [hE1]; simp [clN]
        have hE3 : (clsR E n (x + 1)).length = (clsR E n x).length + 1 := by rw [hE1]; simp
        have st2 := ih (x + 1) (upd (upd h' nx0 none) O (some (.cells ((clsR E n (x + 1)).map clN)))) (nx0 + 1) sn' (by omega) (by omega) (by rw [updNe (by omega), updNe (by omega), f1]) f2 (fun j h1 h2 => by
          rw [f3 j h2, hsn j (by omega) h2, hany, show decide (x ≤ j) = true from decide_eq_true (by omega), Bool.true_and]) (by simp)
        rw [hE3] at st2
        rw [hE2] at st2
        generalize (List.range' x (n - x)).filter (E x) = F at *
        have tk : (natL F).take F.length = natL F := List.take_of_length_le (by simp)
        have hlc : ((clsR E n x).map clN).length = (clsR E n x).length := by simp
        generalize (clsR E n x).map clN = C at *
        generalize (clsR E n x).length = cl at *
        simp only [Int.natCast_add, Int.cast_ofNat_Int] at st2
        rw [r07_Monoid_Classes.L2_eq]
        simp only [mbV, hD.l] at st2 ⊢
        simp [KZ2, f4, tk, hclo, hOR, hO', hlc, hwx, show cl ≤ 4611686018427387903 by omega, show (cl + 1) * 24 ≤ 70368744177664 by omega]
        exact st2)
      rw [z1] at st
      rw [r07_Monoid_Classes.L0_eq]
      simp only [mbV, hD.l] at st ⊢
      simp [hx, hz, hl, hsx]
      exact st
theorem rclasses_spec {rows : List (List Int)} {good : List Bool} {k : Nat} (v : VB rows good k) {S : SM} (W : MW rows k S) (kd : Nat) (m : Mem) :
    denC prog ann 50 [ofV rows.length S, .int .i64 (kd : Nat)] m = some (clsNV (clsM rows S k (lfK kd) (rtK kd)), m) := by
  have hle := W.ok.le
  have hb := fun m => below77_spec v W kd m
  have st := rz_out (n := S.1.length) (by omega) (belT_wf rows S kd) (E := eqB rows S k (lfK kd) (rtK kd)) (fun i j hi hj => belT_eqB v W kd hi hj) (eqB_eqv v W _ _) (Z := 6) (O := 7) (by omega) S.1.length 0 (upd (upd Mem.empty.h 6 (some (.cells (List.replicate S.1.length (.bool false))))) 7 (some (.cells []))) 11 (List.replicate S.1.length false) (by omega) (by omega) (by rw [updNe (by omega)]; simp [bls]) (by simp) (fun j h1 h2 => by simp [bnth, List.getD_eq_getElem?_getD, h2]) (by simp [clsR])
  have c0 : (clsR (eqB rows S k (lfK kd) (rtK kd)) S.1.length 0).length = 0 := rfl
  rw [c0] at st
  simp only [Int.ofNat_zero, Int.cast_ofNat_Int, KZ0] at st
  rw [ofV_eq, r07_Monoid_Classes.call_eq _ _ _ (by simp [ofD, wdsV])]
  rw [ofV_eq] at hb
  have hbc : (mbV S.1.length (belT rows S kd S.1.length)).closed = true := rfl
  simp only [ofD, wdsV] at hb ⊢
  generalize mbV S.1.length (belT rows S kd S.1.length) = mv at *
  simp at hb
  simp [hb, hbc, show S.1.length ≤ 4611686018427387904 by omega, show S.1.length ≤ 70368744177664 by omega]
  rw [st]
  rfl
end Go.Proofs.Ythnpflkpjimkfaa

/-
  CLASSES BY THEIR WORDS: the specification's. Conditions: none.
-/
namespace Go.Proofs.Ythnpflkpjimkfaa
open Go.AM
open Go.Proofs.Try (prog)
set_option linter.all false
set_option maxRecDepth 100000
set_option maxHeartbeats 8000000
theorem natL_head {c : List Nat} {i : Nat} (h : i < c.length) : ((natL c).drop i).head? = some (.int .i64 (c[i] : Nat)) := by
  rw [List.head?_drop]; simp [natL, natV, h]
theorem clN_head {l : List (List Nat)} {i : Nat} (h : i < l.length) : ((l.map clN).drop i).head? = some (.fsl false l[i].length (natL l[i])) := by
  rw [List.head?_drop]; simp [clN, h]
@[simp] theorem clV_len (S : SM) (c : List Nat) : (clV S c).length = c.length := by simp [clV]
theorem clsL_mem {E : Nat → Nat → Bool} {n : Nat} : ∀ c ∈ clsL E n, ∀ x ∈ c, x < n := by
  intro c hc x hx
  simp only [clsL, clsR, List.mem_map] at hc
  obtain ⟨i, _, rfl⟩ := hc
  have := (List.mem_filter.1 hx).1
  simpa using this
end Go.Proofs.Ythnpflkpjimkfaa

/-
  POWERS THAT COME AGAIN: plain law. Conditions: none.
-/
namespace Go.Proofs.Ythnpflkpjimkfaa
set_option linter.all false
set_option maxRecDepth 100000
theorem nd_len : ∀ (N : Nat) (l : List Nat), l.Nodup → (∀ x ∈ l, x < N) → l.length ≤ N
  | 0, l, _, h => by
    cases l with
    | nil => simp
    | cons a l => have := h a (by simp); omega
  | N + 1, l, d, h => by
    have h1 := nd_len N (l.erase N) (d.erase N) (fun x hx => by
      have := (List.Nodup.mem_erase_iff d).1 hx
      have := h x this.2
      omega)
    have : l.length ≤ (l.erase N).length + 1 := by
      rw [List.length_erase]; split <;> omega
    omega
structure IsPer (f : Nat → Nat) (N p : Nat) : Prop where
  ps : 1 ≤ p
  eq : f (N + p) = f N
  mn : ∀ q, 1 ≤ q → q < p → f (N + q) ≠ f N
theorem IsPer.uniq {f : Nat → Nat} {N p q : Nat} (h : IsPer f N p) (g : IsPer f N q) : p = q := by
  rcases Nat.lt_trichotomy p q with c | c | c
  · exact absurd h.eq (g.mn p h.ps c)
  · exact c
  · exact absurd g.eq (h.mn q g.ps c)
section
variable {f : Nat → Nat} (H : ∀ a b, f a = f b → f (a + 1) = f (b + 1))
include H
theorem shf {a b : Nat} (h : f a = f b) : ∀ k, f (a + k) = f (b + k)
  | 0 => h
  | k + 1 => H _ _ (shf h k)
theorem per_add {c at' : Nat} (hat : at' < c) (hc : f c = f at') {t : Nat} (ht : at' ≤ t) : f (t + (c - at')) = f t := by
  have := shf H hc (t - at')
  rw [show t + (c - at') = c + (t - at') by omega, this, show at' + (t - at') = t by omega]
theorem per_res {c at' : Nat} (hat : at' < c) (hc : f c = f at') : ∀ (m t : Nat), at' ≤ t → t < m → ∃ r, at' ≤ r ∧ r < c ∧ ∀ s, f (t + s) = f (r + s)
  | 0, t, _, h => by omega
  | m + 1, t, h1, h2 => by
    by_cases q : t < c
    · exact ⟨t, h1, q, fun _ => rfl⟩
    · obtain ⟨r, r1, r2, r3⟩ := per_res hat hc m (t - (c - at')) (by omega) (by omega)
      refine ⟨r, r1, r2, fun s => ?_⟩
      rw [← r3 s, ← per_add H hat hc (t := t - (c - at') + s) (by omega)]
      congr 1; omega
theorem per_first {N c at' : Nat} (hat : at' < c) (hc : f c = f at') (hd : ∀ a b, a < b → b < c → f a ≠ f b) (hN : at' ≤ N) : IsPer f N (c - at') := by
  obtain ⟨r, r1, r2, r3⟩ := per_res H hat hc (N + 1) N hN (by omega)
  refine ⟨by omega, per_add H hat hc hN, fun q q1 q2 e => ?_⟩
  have e0 := r3 0
  rw [r3 q, show f N = f (N + 0) from rfl, e0, Nat.add_zero] at e
  by_cases w : r + q < c
  · exact hd r (r + q) (by omega) w e.symm
  · have := per_add H hat hc (t := r + q - (c - at')) (by omega)
    rw [show r + q - (c - at') + (c - at') = r + q by omega, e] at this
    exact hd _ r (by omega) r2 this.symm
end
theorem rep_few {f : Nat → Nat} {N c : Nat} (hb : ∀ t, f t < N) (hd : ∀ a b, a < b → b < c → f a ≠ f b) : c ≤ N := by
  have := nd_len N ((List.range c).map f) (by
    rw [List.Nodup, List.pairwise_map]
    refine List.Pairwise.imp_of_mem ?_ (List.pairwise_lt_range (n := c))
    intro a b ha hb' hab
    exact hd a b hab (by simpa using hb')) (fun x hx => by
    obtain ⟨t, _, rfl⟩ := List.mem_map.1 hx
    exact hb t)
  simpa using this
end Go.Proofs.Ythnpflkpjimkfaa
