/-
  CLASSES: all of them. Conditions: none.
-/
import Derived.Test.YthnpflkpjimkfaaK03
import Derived.Test.YthnpflkpjimkfaaKAmH
import Derived.Test.YthnpflkpjimkfaaK00
import Derived.Test.YthnpflkpjimkfaaK01
set_option linter.all false
namespace Go.Proofs.Ythnpflkpjimkfaa
open Go.AM
open Go.Proofs.Try (prog)
set_option linter.all false
set_option maxRecDepth 100000
set_option maxHeartbeats 8000000
theorem clF_deep (S : SM) (c : List Nat) (h : Nat → Option AObj) (d : Nat) : AM.deep h (d + 1) (clF S c) = some (clF S c) := rfl
theorem cl_out {nv gv : AV} {rows : List (List Int)} {k : Nat} {S : SM} (W : MW rows k S) {D : MB} (hD : Wf S.1.length D) {E : Nat → Nat → Bool} (hE : ∀ i j, i < S.1.length → j < S.1.length → (mth D i j && mth D j i) = E i j) (eq : Eqv E S.1.length) {Z lo : Nat} (hZ : Z < lo) :
    ∀ (c i : Nat) (h : Nat → Option AObj) (nx0 : Nat) (o : AV) (sn : List Bool), i + c = S.1.length → h Z = some (.cells (bls sn)) → sn.length = S.1.length → (∀ j', j' < S.1.length → bnth sn j' = (List.range i).any fun j => E j j') → Nl h o ((clsR E S.1.length i).map (clF S)) lo nx0 → lo ≤ nx0 → (0 < i → o ≠ .nils) → (clsR E S.1.length i).length ≤ i →
    brand_monoid_classes.L0 (monV nv gv S) (mbV S.1.length D) (.sl Z 1 0 S.1.length S.1.length) o (.int .i64 S.2.length) (.int .i64 i) ⟨h, nx0⟩ KC0 = some (clsV S (clsL E S.1.length), Mem.empty) := by
  intro c
  have hle := W.ok.le
  have hlen := W.ok.len
  have hpos := W.pos
  induction c with
  | zero =>
    intro i h nx0 o sn h1 h0 hl hsn N hlo hon hcl
    have e : i = S.2.length := by omega
    subst e
    have hd := N.deep 5 (fun x hx => by
      simp only [List.mem_map] at hx
      obtain ⟨b, _, rfl⟩ := hx
      exact clF_deep S b h 4) (hon (by omega))
    have e2 : clsL E S.1.length = clsR E S.1.length S.2.length := by rw [clsL, hlen]
    rw [brand_monoid_classes.L0_eq]
    simp [KC0, hd, clsV, e2]
    done
  | succ c ih =>
    intro i h nx0 o sn h1 h0 hl hsn N hlo hon hcl
    have hi : i < S.1.length := by omega
    have hi2 : i < S.2.length := by omega
    have hwi : IntKind.wrap .i64 ((i : Int) + 1) = (i : Int) + 1 := wrap_id (by omega) (by omega)
    have hany : ∀ j', ((List.range (i + 1)).any fun j => E j j') = (((List.range i).any fun j => E j j') || E i j') := fun j' => by rw [List.range_succ, List.any_append]; simp
    have hsc : (bls sn)[i]? = some (.bool (bnth sn i)) := by
      have : i < sn.length := by omega
      simp [bls, bnth, this, List.getD_eq_getElem?_getD]
    have hsi := hsn i hi
    cases q : (List.range i).any fun j => E j i with
    | true =>
      rw [q] at hsi
      rw [hsi] at hsc
      have hsx := (List.getElem?_eq_some_iff.1 hsc).2
      have hf : frstB E i = false := by rw [frstB, q]; rfl
      have e1 : clsR E S.1.length (i + 1) = clsR E S.1.length i := by rw [clsR_succ, hf]; simp
      obtain ⟨j0, hj0, hE0⟩ := List.any_eq_true.1 q
      have hj0 : j0 < i := by simpa using hj0
      have st := ih (i + 1) h nx0 o sn (by omega) h0 hl (fun j' hj' => by
        rw [hsn j' hj', hany]
        cases w : E i j' with
        | false => simp
        | true =>
          rw [Bool.or_true]
          exact List.any_eq_true.2 ⟨j0, by simpa using hj0, eq.tr j0 i j' (by omega) hi hj' hE0 w⟩) (by rw [e1]; exact N) hlo (fun _ => hon (by omega)) (by rw [e1]; omega)
      simp only [Int.natCast_add, Int.cast_ofNat_Int] at st
      rw [brand_monoid_classes.L0_eq]
      simp [hi2, hi, h0, hl, hsx, hwi]
      exact st
    | false =>
      rw [q] at hsi
      rw [hsi] at hsc
      have hsx := (List.getElem?_eq_some_iff.1 hsc).2
      have hf : frstB E i = true := by rw [frstB, q]; rfl
      have e1 : clsR E S.1.length (i + 1) = clsR E S.1.length i ++ [(List.range S.1.length).filter (E i)] := by rw [clsR_succ, hf]; simp
      have st := cl_in (nv := nv) (gv := gv) W hD hE (Z := Z) (lo := nx0) hi (by omega) (o := o) (r := some (clsV S (clsL E S.1.length), Mem.empty)) S.1.length 0 h nx0 .nils sn (by omega) h0 hl .nil (Nat.le_refl _) (fun _ => rfl) (fun h' nx' w' sn' f1 f2 f3 f4 f5 f6 => by
        have hmem : i ∈ (List.range S.1.length).filter (E i) := by simp [hi, eq.rf i hi]
        obtain ⟨R, rfl, w1, w2, w3⟩ := f4.sl (f4.nn (by
          intro e
          have := congrArg List.length e
          simp only [clV, List.length_map, List.length_nil] at this
          have := List.length_pos_of_mem hmem
          omega))
        have lcl : (clV S ((List.range S.1.length).filter (E i))).length = ((List.range S.1.length).filter (E i)).length := by simp [clV]
        have N2 : Nl (upd h' R none) o ((clsR E S.1.length i).map (clF S)) lo nx0 := N.fr (fun y y1 y2 _ => by rw [updNe (by omega), f6 y (by omega) (by omega)]) (Nat.le_refl _)
        obtain ⟨o', h2, n2, g1, g2, g3, g4, g5, g6, g7⟩ := N2.app (nx := nx') (by' := 24) (by omega) (by omega) (by simp; omega) (clF S ((List.range S.1.length).filter (E i)))
        have hZ2 : h2 Z = some (.cells (bls sn')) := by
          rw [g6 Z (fun e => by
            rcases g5 Z e with q | q
            · have := N.oid q; omega
            · omega), updNe (by omega), f1]
        have st2 := ih (i + 1) h2 n2 o' sn' (by omega) hZ2 f2 (fun j' hj' => by rw [f3 j' hj', hsn j' hj', hany]; simp) (by rw [e1, List.map_append]; exact g2) (by omega) (fun _ => g7) (by rw [e1]; simp; omega)
        simp only [Int.natCast_add, Int.cast_ofNat_Int] at st2
        have tk : (clV S ((List.range S.1.length).filter (E i))).take ((List.range S.1.length).filter (E i)).length = clV S ((List.range S.1.length).filter (E i)) := List.take_of_length_le (by omega)
        simp only [clF] at g1
        rw [brand_monoid_classes.L2_eq]
        simp only [wdsV]
        simp [KC2, ← hlen, w1, lcl, clV_closed, tk, N.one, g1, hwi]
        simp only [wdsV, ← hlen] at st2
        exact st2)
      simp only [Int.ofNat_zero, Int.cast_ofNat_Int] at st
      rw [brand_monoid_classes.L0_eq]
      simp only [wdsV, monV] at st ⊢
      simp [hi2, hi, h0, hl, hsx]
      exact st
theorem classes_spec {nv gv : AV} {ps : List AV} {rows : List (List Int)} {good : List Bool} {k : Nat} (hn : IsRows nv ps rows) (hg : IsB gv good) (v : VB rows good k) {S : SM} (W : MW rows k S) (lf rt : Bool) {E : Nat → Nat → Bool} (hE : ∀ i j, i < S.1.length → j < S.1.length → (mth (belM rows S k lf rt) i j && mth (belM rows S k lf rt) j i) = E i j) (eq : Eqv E S.1.length) (m : Mem) :
    denC prog ann 89 [monV nv gv S, .bool lf, .bool rt] m = some (clsV S (clsL E S.1.length), m) := by
  have hle := W.ok.le
  have hlen := W.ok.len
  have hb := fun m => below_spec hn hg v W lf rt m
  obtain ⟨hD, _⟩ := belM_law v W lf rt
  have st := cl_out (nv := nv) (gv := gv) W hD hE eq (Z := 0) (lo := 1) (by omega) S.1.length 0 (upd Mem.empty.h 0 (some (.cells (List.replicate S.1.length (.bool false))))) 1 .nils (List.replicate S.1.length false) (by omega) (by simp [bls]) (by simp) (fun j' hj' => by simp [bnth, List.getD_eq_getElem?_getD, hj']) .nil (by omega) (by omega) (by simp [clsR])
  simp only [Int.ofNat_zero, Int.cast_ofNat_Int, KC0] at st
  rw [monV, brand_monoid_classes.call_eq _ _ _ _ (by simp)]
  simp only [wdsV, monV] at st hb ⊢
  simp [← hlen, hb, show S.1.length ≤ 4611686018427387904 by omega, show S.1.length ≤ 70368744177664 by omega]
  simp only [← hlen] at st
  simp [← hlen] at hb
  first
    | (rw [st]; rfl)
    | (simp [hb, show S.1.length ≤ 4611686018427387904 by omega, show S.1.length ≤ 70368744177664 by omega]; rw [st]; rfl)
end Go.Proofs.Ythnpflkpjimkfaa

/-
  CLASSES: Left, Right, Classes; lists of lists that are the same. Conditions: none.
-/
namespace Go.Proofs.Ythnpflkpjimkfaa
open Go.AM
open Go.Proofs.Try (prog)
set_option linter.all false
set_option maxRecDepth 100000
set_option maxHeartbeats 8000000
theorem Rch.trans {stp : Nat → List Nat} {i j k : Nat} (h : Rch stp i j) (g : Rch stp j k) : Rch stp i k := by
  induction g with
  | refl => exact h
  | step _ hk ih => exact ih.step hk
section
variable {rows : List (List Int)} {good : List Bool} {k : Nat} {S : SM}
theorem Blw.rf (W : MW rows k S) {lf rt : Bool} {i : Nat} (hi : i < S.1.length) : Blw rows S k lf rt i i := ⟨[], [], okW_nil k, okW_nil k, fun _ => rfl, fun _ => rfl, by simpa using W.self hi⟩
theorem Blw.tr (v : VB rows good k) (W : MW rows k S) {lf rt : Bool} {i j l : Nat} (hi : i < S.1.length) (hj : j < S.1.length) (h : Blw rows S k lf rt i j) (g : Blw rows S k lf rt j l) : Blw rows S k lf rt i l :=
  blw_of_rch v W hi ((rch_of_blw v W hi h).trans (rch_of_blw v W hj g))
open Classical in
noncomputable def eqB (rows : List (List Int)) (S : SM) (k : Nat) (lf rt : Bool) (i j : Nat) : Bool := decide (Blw rows S k lf rt i j) && decide (Blw rows S k lf rt j i)
theorem eqB_eqv (v : VB rows good k) (W : MW rows k S) (lf rt : Bool) : Eqv (eqB rows S k lf rt) S.1.length := by
  refine ⟨fun i hi => ?_, fun i j _ _ h => ?_, fun i j l hi hj hl h g => ?_⟩
  · simp [eqB, Blw.rf W hi]
  · simp only [eqB, Bool.and_eq_true, decide_eq_true_eq] at h ⊢
    exact ⟨h.2, h.1⟩
  · simp only [eqB, Bool.and_eq_true, decide_eq_true_eq] at h g ⊢
    exact ⟨h.1.tr v W hi hj g.1, g.2.tr v W hl hj h.2⟩
end
noncomputable def clsM (rows : List (List Int)) (S : SM) (k : Nat) (lf rt : Bool) : List (List Nat) := clsL (eqB rows S k lf rt) S.1.length
theorem classed_spec {nv gv : AV} {ps : List AV} {rows : List (List Int)} {good : List Bool} (hn : IsRows nv ps rows) (hg : IsB gv good) (hl : rows.length ≤ 1000) (hgl : good.length ≤ 1000) (hr : ∀ i, i < rows.length → (cth rows i).length ≤ 1000) (lf rt : Bool) (m : Mem) :
    denC prog ann 76 [.agg [nv, gv], .bool lf, .bool rt] m = some (if validB rows good = true then (match madeB rows good (cth rows 0).length with | some S => .tup [clsV S (clsM (rowsM rows good (cth rows 0).length) S (cth rows 0).length lf rt), .int .i64 0] | none => .tup [.nils, .int .i64 7]) else .tup [.nils, .int .i64 1], m) := by
  have h1 := fun m => made_spec hn hg hl hgl hr m
  rw [brand_classed.call_eq _ _ _ _ (by simp [hn.closed, hg.closed])]
  cases c0 : validB rows good with
  | false =>
    rw [c0] at h1
    simp [hn.one, hg.one, hn.closed, hg.closed, h1]
    done
  | true =>
    rw [c0, if_pos rfl] at h1
    have v := VB.of c0
    cases e : madeB rows good (cth rows 0).length with
    | none =>
      rw [e] at h1
      simp only [mdR] at h1
      simp [hn.one, hg.one, hn.closed, hg.closed, h1]
      done
    | some S =>
      have W := MW_of v e
      have vm := VB_M v
      rw [e] at h1
      simp only [mdR, monV] at h1
      have hc := fun m => classes_spec (isRows_M rows good (cth rows 0).length) (isB_M rows good (cth rows 0).length) vm W lf rt (E := eqB (rowsM rows good (cth rows 0).length) S (cth rows 0).length lf rt) (fun i j hi hj => by rw [(belM_law vm W lf rt).2 i j hi hj, (belM_law vm W lf rt).2 j i hj hi, eqB]) (eqB_eqv vm W lf rt) m
      simp only [monV, clsV] at hc
      simp [hn.one, hg.one, hn.closed, hg.closed, h1, hc, clsV, clsM]
      done
noncomputable def clsRes (rows : List (List Int)) (good : List Bool) (lf rt : Bool) : AV := if validB rows good = true then (match madeB rows good (cth rows 0).length with | some S => .tup [clsV S (clsM (rowsM rows good (cth rows 0).length) S (cth rows 0).length lf rt), .int .i64 0] | none => .tup [.nils, .int .i64 7]) else .tup [.nils, .int .i64 1]
theorem classes45_spec {nv gv : AV} {ps : List AV} {rows : List (List Int)} {good : List Bool} (hn : IsRows nv ps rows) (hg : IsB gv good) (hl : rows.length ≤ 1000) (hgl : good.length ≤ 1000) (hr : ∀ i, i < rows.length → (cth rows i).length ≤ 1000) (m : Mem) : denC prog ann 45 [.agg [nv, gv]] m = some (clsRes rows good true true, m) := by
  have h1 := fun m => classed_spec hn hg hl hgl hr true true m
  rw [brand_Classes.call_eq _ _ (by simp [hn.closed, hg.closed])]
  unfold clsRes
  cases c0 : validB rows good with
  | false =>
    rw [c0] at h1
    simp [hn.one, hg.one, hn.closed, hg.closed, h1]
    done
  | true =>
    rw [c0, if_pos rfl] at h1
    cases e : madeB rows good (cth rows 0).length with
    | none =>
      rw [e] at h1
      simp [hn.one, hg.one, hn.closed, hg.closed, h1]
      done
    | some S =>
      rw [e] at h1
      simp only [clsV] at h1 ⊢
      simp [hn.one, hg.one, hn.closed, hg.closed, h1]
      done
def IsSS (v : AV) (l : List (List (List UInt8))) : Prop := (v = .nils ∧ l = []) ∨ ∃ ex cs, v = .fsl ex l.length cs ∧ cs.length = l.length ∧ ∀ i (hi : i < l.length), ∃ x, cs[i]? = some x ∧ IsS x l[i]
theorem IsSS.len {v : AV} {l : List (List (List UInt8))} (h : IsSS v l) : lenSl v = some (.int .i64 l.length) := by rcases h with ⟨rfl, rfl⟩ | ⟨_, _, rfl, _⟩ <;> rfl
theorem IsSS.closed {v : AV} {l : List (List (List UInt8))} (h : IsSS v l) : v.closed = true := by rcases h with ⟨rfl, rfl⟩ | ⟨_, _, rfl, _⟩ <;> rfl
theorem IsSS.one {v : AV} {l : List (List (List UInt8))} (h : IsSS v l) : v.one = true := by rcases h with ⟨rfl, rfl⟩ | ⟨_, _, rfl, _⟩ <;> rfl
theorem IsSS.at {v : AV} {l : List (List (List UInt8))} (h : IsSS v l) {i : Nat} (hi : i < l.length) : ∃ cs x, idxSl 1 v (.int .i64 (i : Int)) = some (.fptr cs) ∧ cs.head? = some x ∧ IsS x l[i] := by
  rcases h with ⟨rfl, rfl⟩ | ⟨_, cs, rfl, h1, h2⟩
  · simp at hi
  · obtain ⟨x, hx, hs⟩ := h2 i hi
    exact ⟨cs.drop i, x, by simp [hi], by rw [List.head?_drop]; exact hx, hs⟩
theorem samel_loop {v v' : AV} {l : List (List (List UInt8))} (h : IsSS v l) (h' : IsSS v' l) (hl : l.length ≤ 1000) (hll : ∀ x ∈ l, x.length ≤ 1000) : ∀ (c j : Nat) (m : Mem), j + c = l.length →
    r07_SameLists.L0 v v' (.int .i64 j) m [.code r07_SameLists.r8, .code .ret] = some (.bool true, Mem.empty) := by
  intro c
  induction c with
  | zero =>
    intro j m h1
    have e : j = l.length := by omega
    subst e
    rw [r07_SameLists.L0_eq]
    simp [h.len]
    done
  | succ c ih =>
    intro j m h1
    have hj : j < l.length := by omega
    have hwj : IntKind.wrap .i64 ((j : Int) + 1) = (j : Int) + 1 := wrap_id (by omega) (by omega)
    obtain ⟨cs, x, e1, e2, e3⟩ := h.at hj
    obtain ⟨cs', x', e1', e2', e3'⟩ := h'.at hj
    have hs := fun m => same_refl e3 e3' (hll _ (List.getElem_mem hj)) m
    have st := fun m => ih (j + 1) m (by omega)
    simp only [Int.natCast_add, Int.cast_ofNat_Int] at st
    rw [r07_SameLists.L0_eq]
    simp [h.len, hj, e1, e2, e1', e2', e3.closed, e3'.closed, hs, hwj, st]
    done
theorem samel_refl {v v' : AV} {l : List (List (List UInt8))} (h : IsSS v l) (h' : IsSS v' l) (hl : l.length ≤ 1000) (hll : ∀ x ∈ l, x.length ≤ 1000) (m : Mem) : denC prog ann 46 [v, v'] m = some (.bool true, m) := by
  have lp := fun m => samel_loop h h' hl hll l.length 0 m (by omega)
  simp only [Int.ofNat_zero, Int.cast_ofNat_Int] at lp
  rw [r07_SameLists.call_eq _ _ _ (by simp [h.closed, h'.closed])]
  simp [h.len, h'.len, lp]
  done
def clsS (S : SM) (l : List (List Nat)) : List (List (List UInt8)) := l.map fun c => c.map (wrd S)
theorem clsV_is (S : SM) (l : List (List Nat)) : IsSS (clsV S l) (clsS S l) := by
  refine .inr ⟨false, l.map (clF S), by simp [clsV, clsS], by simp [clsS], fun i hi => ?_⟩
  have hi' : i < l.length := by simpa [clsS] using hi
  refine ⟨clF S l[i], by simp [hi'], ?_⟩
  refine .inr ⟨false, ?_⟩
  simp [clF, clV, clsS]
theorem clsL_few (E : Nat → Nat → Bool) (n : Nat) : (clsL E n).length ≤ n ∧ ∀ c ∈ clsL E n, c.length ≤ n := by
  refine ⟨?_, fun c hc => ?_⟩
  · have := List.length_filter_le (frstB E) (List.range n)
    simpa [clsL, clsR] using this
  · simp only [clsL, clsR, List.mem_map] at hc
    obtain ⟨i, _, rfl⟩ := hc
    have := List.length_filter_le (E i) (List.range n)
    simpa using this
end Go.Proofs.Ythnpflkpjimkfaa

/-
  BODIES OF FUNCTIONS OF THE PROGRAM AS SMALL OPERATIONS (written by gen.py; checked by the kernel against the program). Conditions: none.
-/
namespace Go.Proofs.Ythnpflkpjimkfaa
open Go.AM
open Go.Proofs.Try (prog)
set_option maxRecDepth 100000
set_option linter.all false
namespace l07_BrandTurned
noncomputable section
variable (K : List Item) (s : St)
def b : Code := (Try.f12.body).getD .skip
theorem hf : prog.funcs[12]? = some Try.f12 := by kernel_rfl
def r0 := findReg b 0
def r1 := findReg b 1
def r2 := findReg b 2
def r3 := findReg b 3
def k0 := findBlk b 0
def l0 := loopOf k0
def L0 (x3 x4 x5 : AV) (m : Mem) (K : List Item) : Option Res := den prog ann 12 (.code l0 :: .inLoop l0 :: .inBlock 0 :: K) ⟨[(3, x3), (4, x4), (5, x5)], 115, m⟩
def r4 := findReg b 4
def i0 := findCond b 0
def i0t := thenOf i0
def i0e := elseOf i0
def k1 := findBlk b 1
def r6 := findReg b 6
def r5 := findReg b 5
def r7 := findReg b 7
def r8 := findReg b 8
def r9 := findReg b 9
def r10 := findReg b 10
def r11 := findReg b 11
def r12 := findReg b 12
def r13 := findReg b 13
theorem b_eq : den prog ann 12 (.code b :: K) s = den prog ann 12 (.code r0 :: .code r1 :: .code r2 :: .code r3 :: .code k0 :: .code r7 :: .code r8 :: .code r9 :: .code r10 :: .code r11 :: .code r12 :: .code r13 :: .code .ret :: K) s := den_flat hf (l := [r0, r1, r2, r3, k0, r7, r8, r9, r10, r11, r12, r13, .ret]) (by kernel_rfl) K s
theorem r0_eq : den prog ann 12 (.code r0 :: K) s = mreg prog ann 12 none [] none [] [qA 1 frozenPtr 0,qF 2 fun s => some (.bool false)] K s := (den_reg hf _ K s).trans (by kernel_rfl)
theorem r1_eq : den prog ann 12 (.code r1 :: K) s = mreg prog ann 12 none [] none [3] [qA 18 (loadF true 4) 1,⟨some 19, none, .c 0 (fun s => (.fn 22 [] [])) fun s => [(s.get 18)]⟩,⟨some 3, none, .w false none fun s => newPtr s.m [.nils, .nils]⟩,⟨none, none, .w false none fun s => stA true 2 s.m (s.get 3) (s.get 19)⟩] K s := (den_reg hf _ K s).trans (by kernel_rfl)
theorem r2_eq : den prog ann 12 (.code r2 :: K) s = mreg prog ann 12 none [] none [] [qA 20 (fieldA 0) 3,qA 21 (loadF false 1) 20,qF 22 fun s => bldA (plc [(0, 1), (1, 1)]) [.nils, .nils] [(0, (s.get 21))],⟨some 4, none, .w false none fun s => newPtr s.m [.nils, .nils]⟩,⟨none, none, .w false none fun s => stA true 2 s.m (s.get 4) (s.get 22)⟩] K s := (den_reg hf _ K s).trans (by kernel_rfl)
theorem r3_eq : den prog ann 12 (.code r3 :: K) s = mreg prog ann 12 none [] none [] [qF 5 fun s => some (.int .i64 0)] K s := (den_reg hf _ K s).trans (by kernel_rfl)
theorem k0_eq (K : List Item) (t : List (Nat × AV)) (m : Mem) : den prog ann 12 (.code k0 :: K) ⟨t, 115, m⟩ = L0 (get t 3) (get t 4) (get t 5) m K := den_loop_enter hf (b := l0) (id := 4) (l := [3, 4, 5]) (by kernel_rfl) (by kernel_rfl) (by kernel_rfl) K _
theorem l0_eq (K : List Item) (t : List (Nat × AV)) (m : Mem) : den prog ann 12 (.inLoop l0 :: .inBlock 0 :: K) ⟨t, 115, m⟩ = L0 (get t 3) (get t 4) (get t 5) m K := den_loop_again hf (id := 4) (l := [3, 4, 5]) (by kernel_rfl) (by kernel_rfl) (.inBlock 0 :: K) _
theorem L0_eq (x3 x4 x5 : AV) (m : Mem) (K : List Item) : L0 x3 x4 x5 m K = den prog ann 12 (.code r4 :: .code i0 :: .code k1 :: .code r5 :: .inLoop l0 :: .inBlock 0 :: K) ⟨[(3, x3), (4, x4), (5, x5)], 115, m⟩ := den_flat hf (l := [r4, i0, k1, r5]) (by kernel_rfl) _ _
theorem r4_eq : den prog ann 12 (.code r4 :: K) s = mreg prog ann 12 (some [3, 4, 5]) [] none [] [qC 23 5,qA 24 (fieldA 1) 3,qA 25 (loadF false 1) 24,qA 26 lenSl 25,qB 27 (binA prog .lss 3) 23 26] K s := (den_reg hf _ K s).trans (by kernel_rfl)
theorem i0_eq : den prog ann 12 (.code i0 :: K) s = ifV prog ann 12 27 i0t i0e K s (s.get 27) := den_if hf (by kernel_rfl) K s
theorem i0t_eq : den prog ann 12 (.code i0t :: K) s = den prog ann 12 (K) s := den_flat hf (l := []) (by kernel_rfl) K s
theorem i0e_eq : den prog ann 12 (.code i0e :: K) s = den prog ann 12 (.code (.exit 0) :: K) s := den_flat hf (l := [(.exit 0)]) (by kernel_rfl) K s
theorem k1_eq : den prog ann 12 (.code k1 :: K) s = den prog ann 12 (.code r6 :: .inBlock 1 :: K) s := den_blk hf (b := blkOf k1) (l := [r6]) (by kernel_rfl) (by kernel_rfl) K s
theorem r6_draw : drawOk (fun g => (ann g).pure) (modeOf (ann 12) (idOf r6)) (frzOf (ann 12) (idOf r6)) (opsOf r6) = true := drawOk_of (an := [0, 1, 0, 4, 0, 28, 60, 124, 252, 511, 1023, 2047]) (by kernel_rfl) (by kernel_rfl)
theorem r6_eq : den prog ann 12 (.code r6 :: K) s = mreg prog ann 12 none [] (some 12) [] [qA 30 (fieldA 1) 4,qF 31 fun s => loadA false 1 s.m (s.get 30),qA 32 (fieldA 1) 3,qA 33 (loadF false 1) 32,qC 34 5,qB 35 (idxSl 1) 33 34,qF 36 fun s => loadA false 1 s.m (s.get 35),qA 37 (unA .not) 36,qF 38 fun s => bslF 1 (bslA 1 1 [.bool false] [(0, (s.get 37))]),⟨some 39, none, .w false (some 9) fun s => appendA 1 1 s.m (s.get 31) (s.get 38)⟩,qA 40 (fieldA 1) 4,⟨none, none, .w false (some 11) fun s => stA false 1 s.m (s.get 40) (s.get 39)⟩] K s := (den_regD hf r6_draw K s).trans (by kernel_rfl)
theorem r5_eq : den prog ann 12 (.code r5 :: K) s = mreg prog ann 12 (some [3, 4, 5]) [] none [] [qC 28 5,qF 29 fun s => binA prog .add 3 (s.get 28) (.int .i64 1),qC 5 29] K s := (den_reg hf _ K s).trans (by kernel_rfl)
theorem r7_eq : den prog ann 12 (.code r7 :: K) s = mreg prog ann 12 (some [3, 4]) [2004, 4] none [] [qA 42 (loadF true 2) 3,⟨some 43, none, .c 2 (fun s => (.fn 36 [] [])) fun s => [(s.get 42)]⟩,qC 41 43,qF 44 fun s => extA (s.get 41) 0,qF 45 fun s => extA (s.get 41) 1,qC 6 44,qC 7 45] K s := (den_reg hf _ K s).trans (by kernel_rfl)
theorem r8_eq : den prog ann 12 (.code r8 :: K) s = mreg prog ann 12 none [] none [] [qF 47 fun s => loadA true 2 s.m (s.get 4),⟨some 48, none, .c 2 (fun s => (.fn 36 [] [])) fun s => [(s.get 47)]⟩,qC 46 48,qF 49 fun s => extA (s.get 46) 0,qF 50 fun s => extA (s.get 46) 1,qC 8 49,qC 9 50] K s := (den_reg hf _ K s).trans (by kernel_rfl)
theorem r9_eq : den prog ann 12 (.code r9 :: K) s = mreg prog ann 12 none [] none [] [qA 52 (loadF true 2) 3,⟨some 53, none, .c 2 (fun s => (.fn 45 [] [])) fun s => [(s.get 52)]⟩,qC 51 53,qF 54 fun s => extA (s.get 51) 0,qF 55 fun s => extA (s.get 51) 1,qC 10 54,qC 11 55] K s := (den_reg hf _ K s).trans (by kernel_rfl)
theorem r10_eq : den prog ann 12 (.code r10 :: K) s = mreg prog ann 12 none [] none [] [qF 57 fun s => loadA true 2 s.m (s.get 4),⟨some 58, none, .c 2 (fun s => (.fn 45 [] [])) fun s => [(s.get 57)]⟩,qC 56 58,qF 59 fun s => extA (s.get 56) 0,qF 60 fun s => extA (s.get 56) 1,qC 12 59,qC 13 60] K s := (den_reg hf _ K s).trans (by kernel_rfl)
theorem r11_eq : den prog ann 12 (.code r11 :: K) s = mreg prog ann 12 none [] none [] [qA 62 (loadF true 2) 3,⟨some 63, none, .c 0 (fun s => (.fn 23 [] [])) fun s => [(s.get 62)]⟩,qC 61 63,qF 64 fun s => extA (s.get 61) 0,qF 65 fun s => extA (s.get 61) 1,qC 14 64,qC 15 65] K s := (den_reg hf _ K s).trans (by kernel_rfl)
theorem r12_eq : den prog ann 12 (.code r12 :: K) s = mreg prog ann 12 none [] none [] [qF 67 fun s => loadA true 2 s.m (s.get 4),⟨some 68, none, .c 0 (fun s => (.fn 23 [] [])) fun s => [(s.get 67)]⟩,qC 66 68,qF 69 fun s => extA (s.get 66) 0,qF 70 fun s => extA (s.get 66) 1,qC 16 69,qC 17 70] K s := (den_reg hf _ K s).trans (by kernel_rfl)
theorem r13_eq : den prog ann 12 (.code r13 :: K) s = mreg prog ann 12 none [] none [] [qC 71 7,qC 72 9,qB 73 (binA prog .eql 27) 71 72,qC 74 73,⟨some 75, some (74, true), .v fun s => some (s.get 7)⟩,⟨some 76, some (74, true), .v fun s => binA prog .eql 27 (s.get 75) (.int .i64 0)⟩,⟨some 77, some (74, true), .v fun s => some (s.get 76)⟩,⟨some 78, some (77, false), .v fun s => some (s.get 7)⟩,⟨some 79, some (77, false), .v fun s => binA prog .eql 27 (s.get 78) (.int .i64 7)⟩,⟨some 80, some (74, true), .v fun s => pickA (s.get 77) (.bool true) (s.get 79)⟩,qF 81 fun s => pickA (s.get 74) (s.get 80) (.bool false),qC 82 81,⟨some 83, some (82, true), .v fun s => some (s.get 6)⟩,⟨some 84, some (82, true), .v fun s => some (s.get 8)⟩,⟨some 85, some (82, true), .c 0 (fun s => (.fn 38 [] [])) fun s => [(s.get 83), (s.get 84)]⟩,qF 86 fun s => pickA (s.get 82) (s.get 85) (.bool false),qC 87 86,⟨some 88, some (87, true), .v fun s => some (s.get 11)⟩,⟨some 89, some (87, true), .v fun s => some (s.get 7)⟩,⟨some 90, some (87, true), .v fun s => binA prog .eql 27 (s.get 88) (s.get 89)⟩,qF 91 fun s => pickA (s.get 87) (s.get 90) (.bool false),qC 92 91,⟨some 93, some (92, true), .v fun s => some (s.get 13)⟩,⟨some 94, some (92, true), .v fun s => some (s.get 7)⟩,⟨some 95, some (92, true), .v fun s => binA prog .eql 27 (s.get 93) (s.get 94)⟩,qF 96 fun s => pickA (s.get 92) (s.get 95) (.bool false),qC 97 96,⟨some 98, some (97, true), .v fun s => some (s.get 10)⟩,⟨some 99, some (97, true), .v fun s => some (s.get 12)⟩,⟨some 100, some (97, true), .c 0 (fun s => (.fn 46 [] [])) fun s => [(s.get 98), (s.get 99)]⟩,qF 101 fun s => pickA (s.get 97) (s.get 100) (.bool false),qC 102 101,⟨some 103, some (102, true), .v fun s => some (s.get 14)⟩,⟨some 104, some (102, true), .v fun s => some (s.get 16)⟩,⟨some 105, some (102, true), .v fun s => binA prog .eql 9 (s.get 103) (s.get 104)⟩,qF 106 fun s => pickA (s.get 102) (s.get 105) (.bool false),qC 107 106,⟨some 108, some (107, true), .v fun s => some (s.get 15)⟩,⟨some 109, some (107, true), .v fun s => some (s.get 17)⟩,⟨some 110, some (107, true), .v fun s => binA prog .eql 27 (s.get 108) (s.get 109)⟩,qF 111 fun s => pickA (s.get 107) (s.get 110) (.bool false),qC 112 111,⟨some 113, some (112, true), .c 0 (fun s => (.fn 21 [] [])) fun s => []⟩,qF 114 fun s => pickA (s.get 112) (s.get 113) (.bool false),qC 2 114] K s := (den_reg hf _ K s).trans (by kernel_rfl)
theorem ret_eq : den prog ann 12 (.code .ret :: K) s = finM true [fun s => some (s.get 2)] s := (den_ret hf K s).trans (by kernel_rfl)
theorem nil_eq (s : St) : den prog ann 12 [] s = finM true [fun s => some (s.get 2)] s := (den_nil hf s).trans (by kernel_rfl)
theorem inBlock_eq (id : Nat) (K : List Item) (s : St) : den prog ann 12 (.inBlock id :: K) s = den prog ann 12 K s := den_inBlock hf id K s
theorem exit_eq (id : Nat) (K : List Item) (s : St) : den prog ann 12 (.code (.exit id) :: K) s = exitV prog ann 12 (exitTo id K) s := den_exitV hf id K s
theorem call_eq (v0 : AV) (m : Mem) (h : closedL [v0] = true) : denC prog ann 12 [v0] m = (den prog ann 12 [.code b] ⟨[(0, v0)], 115, Mem.empty⟩).bind fun r => some (r.1, m) := (denC_pure hf (b := b) (by kernel_rfl) (by kernel_rfl) (by kernel_rfl) h m).trans (by kernel_rfl)
theorem pure_eq : (ann 12).pure = true := by kernel_rfl
attribute [simp] b_eq r0_eq r1_eq r2_eq r3_eq k0_eq l0_eq r4_eq i0_eq i0t_eq i0e_eq k1_eq r6_eq r5_eq r7_eq r8_eq r9_eq r10_eq r11_eq r12_eq r13_eq ret_eq nil_eq inBlock_eq exit_eq pure_eq
end
end l07_BrandTurned
namespace l07_Plan_made
noncomputable section
variable (K : List Item) (s : St)
def b : Code := (Try.f22.body).getD .skip
theorem hf : prog.funcs[22]? = some Try.f22 := by kernel_rfl
def r0 := findReg b 0
def r1 := findReg b 1
def r2 := findReg b 2
def r3 := findReg b 3
def k0 := findBlk b 0
def l0 := loopOf k0
def L0 (x1 x2 x3 x4 x5 x6 : AV) (m : Mem) (K : List Item) : Option Res := den prog ann 22 (.code l0 :: .inLoop l0 :: .inBlock 0 :: K) ⟨[(1, x1), (2, x2), (3, x3), (4, x4), (5, x5), (6, x6)], 79, m⟩
def r4 := findReg b 4
def i0 := findCond b 0
def i0t := thenOf i0
def i0e := elseOf i0
def k1 := findBlk b 1
def r6 := findReg b 6
def r7 := findReg b 7
def k2 := findBlk b 2
def l2 := loopOf k2
def L2 (x1 x2 x3 x4 x5 x6 x7 x8 : AV) (m : Mem) (K : List Item) : Option Res := den prog ann 22 (.code l2 :: .inLoop l2 :: .inBlock 2 :: K) ⟨[(1, x1), (2, x2), (3, x3), (4, x4), (5, x5), (6, x6), (7, x7), (8, x8)], 79, m⟩
def r8 := findReg b 8
def i1 := findCond b 1
def i1t := thenOf i1
def i1e := elseOf i1
def k3 := findBlk b 3
def r10 := findReg b 10
def r11 := findReg b 11
def r12 := findReg b 12
def i2 := findCond b 2
def i2t := thenOf i2
def i2e := elseOf i2
def r13 := findReg b 13
def r14 := findReg b 14
def i3 := findCond b 3
def i3t := thenOf i3
def i3e := elseOf i3
def r15 := findReg b 15
def r16 := findReg b 16
def r9 := findReg b 9
def r17 := findReg b 17
def r5 := findReg b 5
def r18 := findReg b 18
theorem b_eq : den prog ann 22 (.code b :: K) s = den prog ann 22 (.code r0 :: .code r1 :: .code r2 :: .code r3 :: .code k0 :: .code r18 :: .code .ret :: K) s := den_flat hf (l := [r0, r1, r2, r3, k0, r18, .ret]) (by kernel_rfl) K s
theorem r0_eq : den prog ann 22 (.code r0 :: K) s = mreg prog ann 22 none [] none [] [qA 1 frozenPtr 0,⟨some 2, none, .w false none fun s => newPtr s.m [.nils, .nils]⟩] K s := (den_reg hf _ K s).trans (by kernel_rfl)
theorem r1_draw : drawOk (fun g => (ann g).pure) (modeOf (ann 22) (idOf r1)) (frzOf (ann 22) (idOf r1)) (opsOf r1) = true := drawOk_of (an := [0, 1, 3, 7, 15, 0, 32, 96, 224, 480, 31, 2047]) (by kernel_rfl) (by kernel_rfl)
theorem r1_eq : den prog ann 22 (.code r1 :: K) s = mreg prog ann 22 none [] (some 12) [] [qA 11 (fieldA 0) 1,qA 12 (loadF false 1) 11,qA 13 (convInt .i64) 12,qF 14 fun s => binA prog .rem 3 (s.get 13) (.int .i64 6),qF 15 fun s => binA prog .add 3 (s.get 14) (.int .i64 1),qA 16 (fieldA 1) 1,qA 17 (loadF false 1) 16,qA 18 (convInt .i64) 17,qF 19 fun s => binA prog .rem 3 (s.get 18) (.int .i64 3),qF 20 fun s => binA prog .add 3 (s.get 19) (.int .i64 1),qC 3 15,qC 4 20] K s := (den_regD hf r1_draw K s).trans (by kernel_rfl)
theorem r2_eq : den prog ann 22 (.code r2 :: K) s = mreg prog ann 22 none [] none [] [qF 21 fun s => bldA (plc [(0, 1), (1, 1)]) [.nils, .nils] [],⟨some 5, none, .w false none fun s => newPtr s.m [.nils, .nils]⟩,⟨none, none, .w false none fun s => stA true 2 s.m (s.get 5) (s.get 21)⟩] K s := (den_reg hf _ K s).trans (by kernel_rfl)
theorem r3_eq : den prog ann 22 (.code r3 :: K) s = mreg prog ann 22 none [] none [] [qF 6 fun s => some (.int .i64 0)] K s := (den_reg hf _ K s).trans (by kernel_rfl)
theorem k0_eq (K : List Item) (t : List (Nat × AV)) (m : Mem) : den prog ann 22 (.code k0 :: K) ⟨t, 79, m⟩ = L0 (get t 1) (get t 2) (get t 3) (get t 4) (get t 5) (get t 6) m K := den_loop_enter hf (b := l0) (id := 4) (l := [1, 2, 3, 4, 5, 6]) (by kernel_rfl) (by kernel_rfl) (by kernel_rfl) K _
theorem l0_eq (K : List Item) (t : List (Nat × AV)) (m : Mem) : den prog ann 22 (.inLoop l0 :: .inBlock 0 :: K) ⟨t, 79, m⟩ = L0 (get t 1) (get t 2) (get t 3) (get t 4) (get t 5) (get t 6) m K := den_loop_again hf (id := 4) (l := [1, 2, 3, 4, 5, 6]) (by kernel_rfl) (by kernel_rfl) (.inBlock 0 :: K) _
theorem L0_eq (x1 x2 x3 x4 x5 x6 : AV) (m : Mem) (K : List Item) : L0 x1 x2 x3 x4 x5 x6 m K = den prog ann 22 (.code r4 :: .code i0 :: .code k1 :: .code r5 :: .inLoop l0 :: .inBlock 0 :: K) ⟨[(1, x1), (2, x2), (3, x3), (4, x4), (5, x5), (6, x6)], 79, m⟩ := den_flat hf (l := [r4, i0, k1, r5]) (by kernel_rfl) _ _
theorem r4_eq : den prog ann 22 (.code r4 :: K) s = mreg prog ann 22 (some [1, 2, 3, 4, 5, 6]) [] none [] [qC 22 6,qC 23 3,qB 24 (binA prog .lss 3) 22 23] K s := (den_reg hf _ K s).trans (by kernel_rfl)
theorem i0_eq : den prog ann 22 (.code i0 :: K) s = ifV prog ann 22 24 i0t i0e K s (s.get 24) := den_if hf (by kernel_rfl) K s
theorem i0t_eq : den prog ann 22 (.code i0t :: K) s = den prog ann 22 (K) s := den_flat hf (l := []) (by kernel_rfl) K s
theorem i0e_eq : den prog ann 22 (.code i0e :: K) s = den prog ann 22 (.code (.exit 0) :: K) s := den_flat hf (l := [(.exit 0)]) (by kernel_rfl) K s
theorem k1_eq : den prog ann 22 (.code k1 :: K) s = den prog ann 22 (.code r6 :: .code r7 :: .code k2 :: .code r17 :: .inBlock 1 :: K) s := den_blk hf (b := blkOf k1) (l := [r6, r7, k2, r17]) (by kernel_rfl) (by kernel_rfl) K s
theorem r6_eq : den prog ann 22 (.code r6 :: K) s = mreg prog ann 22 none [] none [] [⟨some 27, none, .w false none fun s => bslM s.m 0 (bslA 1 0 [.int .i64 0] [])⟩,qC 7 27] K s := (den_reg hf _ K s).trans (by kernel_rfl)
theorem r7_eq : den prog ann 22 (.code r7 :: K) s = mreg prog ann 22 none [] none [] [qF 8 fun s => some (.int .i64 0)] K s := (den_reg hf _ K s).trans (by kernel_rfl)
theorem k2_eq (K : List Item) (t : List (Nat × AV)) (m : Mem) : den prog ann 22 (.code k2 :: K) ⟨t, 79, m⟩ = L2 (get t 1) (get t 2) (get t 3) (get t 4) (get t 5) (get t 6) (get t 7) (get t 8) m K := den_loop_enter hf (b := l2) (id := 8) (l := [1, 2, 3, 4, 5, 6, 7, 8]) (by kernel_rfl) (by kernel_rfl) (by kernel_rfl) K _
theorem l2_eq (K : List Item) (t : List (Nat × AV)) (m : Mem) : den prog ann 22 (.inLoop l2 :: .inBlock 2 :: K) ⟨t, 79, m⟩ = L2 (get t 1) (get t 2) (get t 3) (get t 4) (get t 5) (get t 6) (get t 7) (get t 8) m K := den_loop_again hf (id := 8) (l := [1, 2, 3, 4, 5, 6, 7, 8]) (by kernel_rfl) (by kernel_rfl) (.inBlock 2 :: K) _
theorem L2_eq (x1 x2 x3 x4 x5 x6 x7 x8 : AV) (m : Mem) (K : List Item) : L2 x1 x2 x3 x4 x5 x6 x7 x8 m K = den prog ann 22 (.code r8 :: .code i1 :: .code k3 :: .code r9 :: .inLoop l2 :: .inBlock 2 :: K) ⟨[(1, x1), (2, x2), (3, x3), (4, x4), (5, x5), (6, x6), (7, x7), (8, x8)], 79, m⟩ := den_flat hf (l := [r8, i1, k3, r9]) (by kernel_rfl) _ _
theorem r8_eq : den prog ann 22 (.code r8 :: K) s = mreg prog ann 22 (some [1, 2, 3, 4, 5, 6, 7, 8]) [] none [] [qC 28 8,qC 29 4,qB 30 (binA prog .lss 3) 28 29] K s := (den_reg hf _ K s).trans (by kernel_rfl)
theorem i1_eq : den prog ann 22 (.code i1 :: K) s = ifV prog ann 22 30 i1t i1e K s (s.get 30) := den_if hf (by kernel_rfl) K s
theorem i1t_eq : den prog ann 22 (.code i1t :: K) s = den prog ann 22 (K) s := den_flat hf (l := []) (by kernel_rfl) K s
theorem i1e_eq : den prog ann 22 (.code i1e :: K) s = den prog ann 22 (.code (.exit 2) :: K) s := den_flat hf (l := [(.exit 2)]) (by kernel_rfl) K s
theorem k3_eq : den prog ann 22 (.code k3 :: K) s = den prog ann 22 (.code r10 :: .code r11 :: .code r12 :: .code i2 :: .code r14 :: .code i3 :: .code r16 :: .inBlock 3 :: K) s := den_blk hf (b := blkOf k3) (l := [r10, r11, r12, i2, r14, i3, r16]) (by kernel_rfl) (by kernel_rfl) K s
theorem r10_eq : den prog ann 22 (.code r10 :: K) s = mreg prog ann 22 none [] none [] [qF 9 fun s => some (.int .i64 0)] K s := (den_reg hf _ K s).trans (by kernel_rfl)
theorem r11_eq : den prog ann 22 (.code r11 :: K) s = mreg prog ann 22 none [] none [] [qC 33 6,qC 34 4,qB 35 (binA prog .mul 3) 33 34,qC 36 8,qB 37 (binA prog .add 3) 35 36,qC 10 37] K s := (den_reg hf _ K s).trans (by kernel_rfl)
theorem r12_eq : den prog ann 22 (.code r12 :: K) s = mreg prog ann 22 none [] none [] [qC 38 10,qA 39 (fieldA 2) 1,qA 40 (loadF false 1) 39,qA 41 lenSl 40,qB 42 (binA prog .lss 3) 38 41] K s := (den_reg hf _ K s).trans (by kernel_rfl)
theorem i2_eq : den prog ann 22 (.code i2 :: K) s = ifV prog ann 22 42 i2t i2e K s (s.get 42) := den_if hf (by kernel_rfl) K s
theorem i2t_eq : den prog ann 22 (.code i2t :: K) s = den prog ann 22 (.code r13 :: K) s := den_flat hf (l := [r13]) (by kernel_rfl) K s
theorem r13_eq : den prog ann 22 (.code r13 :: K) s = mreg prog ann 22 none [] none [] [qA 43 (fieldA 2) 1,qA 44 (loadF false 1) 43,qC 45 10,qB 46 (idxSl 1) 44 45,qA 47 (loadF false 1) 46,qA 48 (convInt .i64) 47,qC 49 3,qB 50 (binA prog .rem 3) 48 49,qC 9 50] K s := (den_reg hf _ K s).trans (by kernel_rfl)
theorem i2e_eq : den prog ann 22 (.code i2e :: K) s = den prog ann 22 (K) s := den_flat hf (l := []) (by kernel_rfl) K s
theorem r14_eq : den prog ann 22 (.code r14 :: K) s = mreg prog ann 22 none [] none [] [qA 51 (fieldA 3) 1,qA 52 (loadF false 1) 51,qF 53 fun s => binA prog .geq 5 (s.get 52) (.int .u8 128)] K s := (den_reg hf _ K s).trans (by kernel_rfl)
theorem i3_eq : den prog ann 22 (.code i3 :: K) s = ifV prog ann 22 53 i3t i3e K s (s.get 53) := den_if hf (by kernel_rfl) K s
theorem i3t_eq : den prog ann 22 (.code i3t :: K) s = den prog ann 22 (.code r15 :: K) s := den_flat hf (l := [r15]) (by kernel_rfl) K s
theorem r15_eq : den prog ann 22 (.code r15 :: K) s = mreg prog ann 22 none [] none [] [qC 54 9,qC 55 6,qF 56 fun s => foldA max2A (s.get 54) [(s.get 55)],qC 9 56] K s := (den_reg hf _ K s).trans (by kernel_rfl)
theorem i3e_eq : den prog ann 22 (.code i3e :: K) s = den prog ann 22 (K) s := den_flat hf (l := []) (by kernel_rfl) K s
theorem r16_eq : den prog ann 22 (.code r16 :: K) s = mreg prog ann 22 (some [1, 2, 3, 4, 5, 6, 7, 8, 9]) [] none [] [qC 57 7,qC 58 9,qF 59 fun s => bslF 1 (bslA 1 1 [.int .i64 0] [(0, (s.get 58))]),⟨some 60, none, .w false none fun s => appendA 1 8 s.m (s.get 57) (s.get 59)⟩,qC 7 60] K s := (den_reg hf _ K s).trans (by kernel_rfl)
theorem r9_eq : den prog ann 22 (.code r9 :: K) s = mreg prog ann 22 (some [1, 2, 3, 4, 5, 6, 7, 8]) [] none [] [qC 31 8,qF 32 fun s => binA prog .add 3 (s.get 31) (.int .i64 1),qC 8 32] K s := (den_reg hf _ K s).trans (by kernel_rfl)
theorem r17_draw : drawOk (fun g => (ann g).pure) (modeOf (ann 22) (idOf r17)) (frzOf (ann 22) (idOf r17)) (opsOf r17) = true := drawOk_of (an := [0, 1, 0, 4, 15, 0, 32, 0, 128, 0, 896, 1920, 3968, 8064, 16383, 127, 65535, 131071, 262143]) (by kernel_rfl) (by kernel_rfl)
theorem r17_eq : den prog ann 22 (.code r17 :: K) s = mreg prog ann 22 (some [1, 2, 3, 4, 5, 6, 7]) [7] (some 19) [3062066, 2000064] [qA 61 (fieldA 0) 5,qF 62 fun s => loadA false 1 s.m (s.get 61),qC 63 7,qF 64 fun s => bslF 1 (bslA 1 1 [.nils] [(0, (s.get 63))]),⟨some 65, none, .w false (some 4) fun s => appendA 1 24 s.m (s.get 62) (s.get 64)⟩,qA 66 (fieldA 1) 5,qF 67 fun s => loadA false 1 s.m (s.get 66),qA 68 (fieldA 3) 1,qA 69 (loadF false 1) 68,qC 70 6,qB 71 (binA prog .shr 5) 69 70,qF 72 fun s => binA prog .and 5 (s.get 71) (.int .u8 1),qF 73 fun s => binA prog .eql 5 (s.get 72) (.int .u8 1),qF 74 fun s => bslF 1 (bslA 1 1 [.bool false] [(0, (s.get 73))]),⟨some 75, none, .w false (some 14) fun s => appendA 1 1 s.m (s.get 67) (s.get 74)⟩,qA 76 (fieldA 0) 5,⟨none, none, .w false (some 16) fun s => stA false 1 s.m (s.get 76) (s.get 65)⟩,qA 77 (fieldA 1) 5,⟨none, none, .w false (some 18) fun s => stA false 1 s.m (s.get 77) (s.get 75)⟩] K s := (den_regD hf r17_draw K s).trans (by kernel_rfl)
theorem r5_eq : den prog ann 22 (.code r5 :: K) s = mreg prog ann 22 (some [1, 2, 3, 4, 5, 6]) [] none [] [qC 25 6,qF 26 fun s => binA prog .add 3 (s.get 25) (.int .i64 1),qC 6 26] K s := (den_reg hf _ K s).trans (by kernel_rfl)
theorem r18_eq : den prog ann 22 (.code r18 :: K) s = mreg prog ann 22 (some [2, 5]) [] none [] [qF 78 fun s => loadA true 2 s.m (s.get 5),⟨none, none, .w false none fun s => stA true 2 s.m (s.get 2) (s.get 78)⟩] K s := (den_reg hf _ K s).trans (by kernel_rfl)
theorem ret_eq : den prog ann 22 (.code .ret :: K) s = finM true [fun s => loadA true 2 s.m (s.get 2)] s := (den_ret hf K s).trans (by kernel_rfl)
theorem nil_eq (s : St) : den prog ann 22 [] s = finM true [fun s => loadA true 2 s.m (s.get 2)] s := (den_nil hf s).trans (by kernel_rfl)
theorem inBlock_eq (id : Nat) (K : List Item) (s : St) : den prog ann 22 (.inBlock id :: K) s = den prog ann 22 K s := den_inBlock hf id K s
theorem exit_eq (id : Nat) (K : List Item) (s : St) : den prog ann 22 (.code (.exit id) :: K) s = exitV prog ann 22 (exitTo id K) s := den_exitV hf id K s
theorem call_eq (v0 : AV) (m : Mem) (h : closedL [v0] = true) : denC prog ann 22 [v0] m = (den prog ann 22 [.code b] ⟨[(0, v0)], 79, Mem.empty⟩).bind fun r => some (r.1, m) := (denC_pure hf (b := b) (by kernel_rfl) (by kernel_rfl) (by kernel_rfl) h m).trans (by kernel_rfl)
theorem pure_eq : (ann 22).pure = true := by kernel_rfl
attribute [simp] b_eq r0_eq r1_eq r2_eq r3_eq k0_eq l0_eq r4_eq i0_eq i0t_eq i0e_eq k1_eq r6_eq r7_eq k2_eq l2_eq r8_eq i1_eq i1t_eq i1e_eq k3_eq r10_eq r11_eq r12_eq i2_eq i2t_eq r13_eq i2e_eq r14_eq i3_eq i3t_eq r15_eq i3e_eq r16_eq r9_eq r17_eq r5_eq r18_eq ret_eq nil_eq inBlock_eq exit_eq pure_eq
end
end l07_Plan_made
end Go.Proofs.Ythnpflkpjimkfaa

/-
  PLANS: numbers from which the laws make brands. Conditions: none.
-/
namespace Go.Proofs.Ythnpflkpjimkfaa
open Go.AM
open Go.Proofs.Try (prog)
set_option linter.all false
set_option maxRecDepth 100000
set_option maxHeartbeats 8000000
theorem u5 : prog.underlying 5 = some (.int .u8) := by kernel_rfl
theorem u35 : prog.underlying 35 = some (.slice 5) := by kernel_rfl
theorem u37 : prog.underlying 37 = some (.struct #[⟨ "States", 5, 0, false, "", "", 0⟩, ⟨ "Signs", 5, 1, false, "", "", 1⟩, ⟨ "Next", 35, 2, false, "", "", 8⟩, ⟨ "Good", 5, 3, false, "", "", 32⟩]) := by kernel_rfl
def bytN (l : List Nat) : List AV := l.map fun x => .int .u8 (x : Nat)
def IsBy (v : AV) (l : List Nat) : Prop := (v = .nils ∧ l = []) ∨ ∃ ex, v = .fsl ex l.length (bytN l)
theorem dat5 {d : Nat} {cs : List AV} (h : Dat prog (d + 1) 5 cs) : ∃ n : Nat, cs = [.int .u8 (n : Nat)] ∧ n < 256 := by
  simp only [Dat, u5] at h
  obtain ⟨n, e, hw⟩ := h
  simp only [Lit.wf, Bool.and_eq_true, decide_eq_true_eq] at hw
  have e1 : IntKind.min .u8 = 0 := by decide
  have e2 : IntKind.max .u8 = 255 := by decide
  rw [e1, e2] at hw
  refine ⟨n.toNat, ?_, by omega⟩
  rw [e]
  have : ((n.toNat : Nat) : Int) = n := by omega
  rw [this]
theorem dat35 {d : Nat} {cs : List AV} (h : Dat prog (d + 2) 35 cs) : ∃ v l, cs = [v] ∧ IsBy v l ∧ (∀ x ∈ l, x < 256) ∧ (l.length : Int) ≤ 9223372036854775807 := by
  rw [Dat] at h
  simp only [u35] at h
  rcases h with rfl | ⟨parts, rfl, hl, hp⟩
  · exact ⟨.nils, [], rfl, .inl ⟨rfl, rfl⟩, by simp, by simp⟩
  · have key : ∀ (parts : List (List AV)), (∀ p ∈ parts, ∃ n : Nat, p = [.int .u8 (n : Nat)] ∧ n < 256) → ∃ l : List Nat, l.length = parts.length ∧ parts.flatten = bytN l ∧ ∀ x ∈ l, x < 256 := by
      intro parts
      induction parts with
      | nil => intro _; exact ⟨[], rfl, rfl, by simp⟩
      | cons p ps ih =>
        intro h
        obtain ⟨n, rfl, hn⟩ := h p (by simp)
        obtain ⟨l, h1, h2, h3⟩ := ih (fun q hq => h q (by simp [hq]))
        exact ⟨n :: l, by simp [h1], by simp [h2, bytN], by intro x hx; rcases List.mem_cons.1 hx with rfl | hx; exact hn; exact h3 x hx⟩
    obtain ⟨l, h1, h2, h3⟩ := key parts (fun p hq => dat5 (hp p hq).2)
    refine ⟨_, l, rfl, .inr ⟨false, by rw [h1, h2]⟩, h3, ?_⟩
    have := mlen
    omega
theorem datV37 {d : Nat} {a : AV} (h : DatV prog (d + 4) 37 a) : ∃ s g : Nat, ∃ q : Nat, ∃ nv l, a = .agg [.int .u8 (s : Nat), .int .u8 (g : Nat), nv, .int .u8 (q : Nat)] ∧ s < 256 ∧ g < 256 ∧ q < 256 ∧ IsBy nv l ∧ (∀ x ∈ l, x < 256) ∧ (l.length : Int) ≤ 9223372036854775807 := by
  simp only [DatV, u37] at h
  obtain ⟨cs, rfl, h⟩ := h
  rw [Dat] at h
  simp only [u37] at h
  obtain ⟨parts, rfl, hl, hp⟩ := h
  match parts, hl with
  | [a, b, c, e], _ =>
    obtain ⟨n0, rfl, h0⟩ := dat5 (hp 0 _ _ rfl rfl).2
    obtain ⟨n1, rfl, h1⟩ := dat5 (hp 1 _ _ rfl rfl).2
    obtain ⟨v, l, rfl, h2, h3, h4⟩ := dat35 (d := d + 1) (hp 2 _ _ rfl rfl).2
    obtain ⟨n3, rfl, h5⟩ := dat5 (hp 3 _ _ rfl rfl).2
    exact ⟨n0, n1, n3, v, l, rfl, h0, h1, h5, h2, h3, h4⟩
end Go.Proofs.Ythnpflkpjimkfaa

/-
  PLANS: the brand that is made. Conditions: none.
-/
namespace Go.Proofs.Ythnpflkpjimkfaa
open Go.AM
open Go.Proofs.Try (prog)
set_option linter.all false
set_option maxRecDepth 100000
set_option maxHeartbeats 8000000
theorem IsBy.closed {v : AV} {l : List Nat} (h : IsBy v l) : v.closed = true := by rcases h with ⟨rfl, _⟩ | ⟨_, rfl⟩ <;> rfl
theorem IsBy.one {v : AV} {l : List Nat} (h : IsBy v l) : v.one = true := by rcases h with ⟨rfl, _⟩ | ⟨_, rfl⟩ <;> rfl
theorem IsBy.len {v : AV} {l : List Nat} (h : IsBy v l) : lenSl v = some (.int .i64 l.length) := by rcases h with ⟨rfl, rfl⟩ | ⟨_, rfl⟩ <;> rfl
theorem IsBy.idx {v : AV} {l : List Nat} (h : IsBy v l) {i : Nat} (hi : i < l.length) (k : IntKind) : idxSl 1 v (.int k (i : Int)) = some (.fptr ((bytN l).drop i)) := by
  rcases h with ⟨rfl, rfl⟩ | ⟨_, rfl⟩
  · simp at hi
  · simp [hi]
theorem byt_head {l : List Nat} {i : Nat} (h : i < l.length) : ((bytN l).drop i).head? = some (.int .u8 (l.getD i 0 : Nat)) := by
  rw [List.head?_drop]
  simp [bytN, h, List.getD_eq_getElem?_getD]
def entP (l : List Nat) (n k q s a : Nat) : Nat := let w := if s * k + a < l.length then l.getD (s * k + a) 0 % n else 0; if 128 ≤ q then max w s else w
theorem entP_lt {l : List Nat} {n k q s a : Nat} (hs : s < n) : entP l n k q s a < n := by
  unfold entP
  have h1 : (if s * k + a < l.length then l.getD (s * k + a) 0 % n else 0) < n := by
    split
    · exact Nat.mod_lt _ (by omega)
    · omega
  simp only []
  split
  · omega
  · exact h1
def rowP (l : List Nat) (n k q s c : Nat) : List Int := (List.range c).map fun a => ((entP l n k q s a : Nat) : Int)
def rowsP (l : List Nat) (n k q c : Nat) : List (List Int) := (List.range c).map fun s => rowP l n k q s k
def goodP (q c : Nat) : List Bool := (List.range c).map fun s => q.testBit s
noncomputable def KP0 : List Item := [.code l07_Plan_made.r18, .code .ret]
noncomputable def KP2 : List Item := .code l07_Plan_made.r17 :: .inBlock 1 :: .code l07_Plan_made.r5 :: .inLoop l07_Plan_made.l0 :: .inBlock 0 :: KP0
theorem pl_in {a0 a1 : Nat} {nv : AV} {l : List Nat} (hb : IsBy nv l) (hlb : ∀ x ∈ l, x < 256) {q n k s : Nat} (hq : q < 256) (hs : s < n) (n6 : n ≤ 6) (k3 : k ≤ 3) {x2 x5 : AV} {R : Nat} {r : Option Res} :
    ∀ (c a : Nat) (h : Nat → Option AObj) (nx0 : Nat), a + c = k → h R = some (.cells (ints (rowP l n k q s a))) → R < nx0 →
    (∀ h' nx', h' R = some (.cells (ints (rowP l n k q s k))) → nx0 ≤ nx' → (∀ y, y ≠ R → h' y = h y) →
      l07_Plan_made.L2 (.fptr [.int .u8 (a0 : Nat), .int .u8 (a1 : Nat), nv, .int .u8 (q : Nat)]) x2 (.int .i64 n) (.int .i64 k) x5 (.int .i64 s) (.sl R 1 0 k k) (.int .i64 k) ⟨h', nx'⟩ KP2 = r) →
    l07_Plan_made.L2 (.fptr [.int .u8 (a0 : Nat), .int .u8 (a1 : Nat), nv, .int .u8 (q : Nat)]) x2 (.int .i64 n) (.int .i64 k) x5 (.int .i64 s) (.sl R 1 0 a a) (.int .i64 a) ⟨h, nx0⟩ KP2 = r := by
  intro c
  induction c with
  | zero =>
    intro a h nx0 h1 h0 hR hk
    have e : a = k := by omega
    subst e
    exact hk h nx0 h0 (Nat.le_refl _) (fun _ _ => rfl)
  | succ c ih =>
    intro a h nx0 h1 h0 hR hk
    have ha : a < k := by omega
    have hwa : IntKind.wrap .i64 ((a : Int) + 1) = (a : Int) + 1 := wrap_id (by omega) (by omega)
    have hsk : s * k ≤ 18 := by
      have := Nat.mul_le_mul (show s ≤ 6 by omega) k3
      omega
    have hw1 : IntKind.wrap .i64 ((s : Int) * k) = ((s * k : Nat) : Int) := by rw [← Int.natCast_mul]; exact wrap_id (by omega) (by omega)
    have hw2 : IntKind.wrap .i64 (((s * k : Nat) : Int) + a) = ((s * k + a : Nat) : Int) := by rw [← Int.natCast_add]; exact wrap_id (by omega) (by omega)
    have hrl : (rowP l n k q s a).length = a := by simp [rowP]
    have hrl1 : (rowP l n k q s (a + 1)).length = a + 1 := by simp [rowP]
    have hrow : ints (rowP l n k q s a) ++ [.int .i64 ((entP l n k q s a : Nat) : Int)] = ints (rowP l n k q s (a + 1)) := by simp [rowP, List.range_succ, ints]
    have hent := entP_lt (l := l) (k := k) (q := q) (a := a) hs
    have st := ih (a + 1) (upd h R (some (.cells (ints (rowP l n k q s (a + 1)))))) nx0 (by omega) (by simp) hR (fun h' nx' f1 f2 f3 => hk h' nx' f1 f2 (fun y hy => by rw [f3 y hy, updNe hy]))
    simp only [Int.natCast_add, Int.cast_ofNat_Int] at st
    have hemax : ∀ w : Nat, max (w : Int) (s : Int) = ((max w s : Nat) : Int) := fun w => by omega
    have hn0 : ¬ n = 0 := by omega
    by_cases c1 : s * k + a < l.length
    · have hb256 : l.getD (s * k + a) 0 < 256 := by
        have : l.getD (s * k + a) 0 ∈ l := by rw [List.getD_eq_getElem?_getD, List.getElem?_eq_getElem c1]; exact List.getElem_mem c1
        exact hlb _ this
      have hcv := wrapN (x := l.getD (s * k + a) 0) (by omega)
      have hmod : ((l.getD (s * k + a) 0 : Nat) : Int).tmod (n : Int) = ((l.getD (s * k + a) 0 % n : Nat) : Int) := by
        rw [Int.tmod_eq_emod_of_nonneg (by omega)]; simp
      have hhd := byt_head c1
      have hix := hb.idx c1 .i64
      have hlt : ((s * k + a : Nat) : Int) < (l.length : Int) := by omega
      by_cases c2 : 128 ≤ q
      · have he : entP l n k q s a = max (l.getD (s * k + a) 0 % n) s := by simp only [entP, if_pos c1, if_pos c2]
        rw [he] at hrow
        have c2' : (128 : Int) ≤ (q : Int) := by omega
        generalize l.getD (s * k + a) 0 = z at *
        generalize s * k + a = at' at *
        generalize s * k = sk at *
        rw [l07_Plan_made.L2_eq]
        simp [ha, hw1, hw2, hb.len, c1, hix, hhd, hcv, hn0, hmod, c2', hemax, h0, hrl, hrow, hrl1, hwa, st, show a ≤ 4611686018427387903 by omega, show (a + 1) * 8 ≤ 70368744177664 by omega, -Int.natCast_add, -Int.natCast_mul, -Int.natCast_emod]
        done
      · have he : entP l n k q s a = l.getD (s * k + a) 0 % n := by simp only [entP, if_pos c1, if_neg c2]
        rw [he] at hrow
        have c2' : ¬ (128 : Int) ≤ (q : Int) := by omega
        generalize l.getD (s * k + a) 0 = z at *
        generalize s * k + a = at' at *
        generalize s * k = sk at *
        rw [l07_Plan_made.L2_eq]
        simp [ha, hw1, hw2, hb.len, c1, hix, hhd, hcv, hn0, hmod, c2', h0, hrl, hrow, hrl1, hwa, st, show a ≤ 4611686018427387903 by omega, show (a + 1) * 8 ≤ 70368744177664 by omega, -Int.natCast_add, -Int.natCast_mul, -Int.natCast_emod]
        done
    · have hge : ¬ ((s * k + a : Nat) : Int) < (l.length : Int) := by omega
      by_cases c2 : 128 ≤ q
      · have he : entP l n k q s a = s := by simp only [entP, if_neg c1, if_pos c2]; omega
        rw [he] at hrow
        have c2' : (128 : Int) ≤ (q : Int) := by omega
        have hm0 : max (0 : Int) (s : Int) = (s : Int) := by omega
        generalize s * k + a = at' at *
        generalize s * k = sk at *
        rw [l07_Plan_made.L2_eq]
        simp [ha, hw1, hw2, hb.len, c1, c2', hm0, h0, hrl, hrow, hrl1, hwa, st, show a ≤ 4611686018427387903 by omega, show (a + 1) * 8 ≤ 70368744177664 by omega, -Int.natCast_add, -Int.natCast_mul]
        done
      · have he : entP l n k q s a = 0 := by simp only [entP, if_neg c1, if_neg c2]
        rw [he] at hrow
        have c2' : ¬ (128 : Int) ≤ (q : Int) := by omega
        simp only [Int.ofNat_zero, Int.cast_ofNat_Int] at hrow
        generalize s * k + a = at' at *
        generalize s * k = sk at *
        rw [l07_Plan_made.L2_eq]
        simp [ha, hw1, hw2, hb.len, c1, c2', h0, hrl, hrow, hrl1, hwa, st, show a ≤ 4611686018427387903 by omega, show (a + 1) * 8 ≤ 70368744177664 by omega, -Int.natCast_add, -Int.natCast_mul]
        done
theorem frz_62_66 (s : St) : frz1 s 3062066 = bif ap (objId (s.get 62)) (objId (s.get 66)) then some s else none := by rw [← ap_eq]; rfl
theorem frz_64 (s : St) : frz1 s 2000064 = bif nsl (s.get 64) then some s else none := rfl
theorem bit8 {q s : Nat} (hq : q < 256) (hs : s < 6) : binA prog .shr 5 (.int .u8 (q : Nat)) (.int .i64 (s : Nat)) = some (.int .u8 ((q / 2 ^ s : Nat) : Int)) := by
  have h0 : ¬ ((s : Int) < 0) := by omega
  have h1 : min (s : Int).toNat (IntKind.bits .u8) = s := by
    show min (s : Int).toNat 8 = s
    omega
  rw [binA_shr, h1]
  have e : (q : Int).fdiv (2 ^ s) = ((q / 2 ^ s : Nat) : Int) := by
    rw [Int.fdiv_eq_ediv_of_nonneg _ (Int.pow_nonneg (by omega))]
    simp
  simp [h0, e]
theorem and8 {x : Nat} (hx : x < 256) : binA prog .and 5 (.int .u8 (x : Nat)) (.int .u8 1) = some (.int .u8 (if x % 2 = 1 then 1 else 0)) := by
  have key : ∀ x : Fin 256, IntKind.wrap .u8 ((BitVec.ofInt (IntKind.bits .u8) ((x.val : Nat) : Int) &&& BitVec.ofInt (IntKind.bits .u8) 1).toNat : Int) = if x.val % 2 = 1 then 1 else 0 := by decide
  rw [binA_and]
  have := key ⟨x, hx⟩
  simp only [] at this
  rw [this]
def pslP (l : List Nat) (n k q c : Nat) : List AV := (List.range c).map fun s => .fsl false k (ints (rowP l n k q s k))
structure Ol (h : Nat → Option AObj) (o z0 : Nat) (a g : AV) (A G : List AV) (lo hi : Nat) : Prop where
  o : h o = some (.cells [a, g])
  z : h z0 = some (.cells [.nils, .nils])
  na : Nl h a A lo hi
  ng : Nl h g G lo hi
  dj : ∀ y, objId a = some y → objId g ≠ some y
theorem pl_out {a0 a1 : Nat} {nv : AV} {l : List Nat} (hb : IsBy nv l) (hlb : ∀ x ∈ l, x < 256) {q n k : Nat} (hq : q < 256) (n1 : 1 ≤ n) (n6 : n ≤ 6) (k1 : 1 ≤ k) (k3 : k ≤ 3) {o lo : Nat} (ho : o < lo) (ho0 : 0 < o) :
    ∀ (c s : Nat) (h : Nat → Option AObj) (nx0 : Nat) (a g : AV), s + c = n → lo ≤ nx0 → Ol h o 0 a g (pslP l n k q s) (bls (goodP q s)) lo nx0 →
    l07_Plan_made.L0 (.fptr [.int .u8 (a0 : Nat), .int .u8 (a1 : Nat), nv, .int .u8 (q : Nat)]) (.ptr 0 0 2) (.int .i64 n) (.int .i64 k) (.ptr o 0 2) (.int .i64 s) ⟨h, nx0⟩ KP0 = some (.agg [.fsl false n (pslP l n k q n), .fsl false n (bls (goodP q n))], Mem.empty) := by
  intro c
  induction c with
  | zero =>
    intro s h nx0 a g h1 hlo O
    have e : s = n := by omega
    subst e
    have na : Nl (upd h 0 (some (AObj.cells [a, g]))) a (pslP l s k q s) lo nx0 := O.na.fr (fun y y1 _ _ => updNe (by omega)) (Nat.le_refl _)
    have ng : Nl (upd h 0 (some (AObj.cells [a, g]))) g (bls (goodP q s)) lo nx0 := O.ng.fr (fun y y1 _ _ => updNe (by omega)) (Nat.le_refl _)
    have hne1 : pslP l s k q s ≠ [] := by intro e; have := congrArg List.length e; simp [pslP] at this; omega
    have hne2 : bls (goodP q s) ≠ [] := by intro e; have := congrArg List.length e; simp [goodP] at this; omega
    have da := na.deep 4 (fun x hx => by
      simp only [pslP, List.mem_map] at hx
      obtain ⟨q, _, rfl⟩ := hx
      rfl) (na.nn hne1)
    have dg := ng.deep 4 (fun x hx => by
      simp only [bls, List.mem_map] at hx
      obtain ⟨q, _, rfl⟩ := hx
      rfl) (ng.nn hne2)
    have l1 : (pslP l s k q s).length = s := by simp [pslP]
    have l2 : (bls (goodP q s)).length = s := by simp [goodP]
    rw [l1] at da
    rw [l2] at dg
    rw [l07_Plan_made.L0_eq]
    simp [O.o, O.z, O.na.one, O.ng.one, KP0]
    simp [da, dg]
    done
  | succ c ih =>
    intro s h nx0 a g h1 hlo O
    have hs : s < n := by omega
    have eR : pslP l n k q s ++ [.fsl false k (ints (rowP l n k q s k))] = pslP l n k q (s + 1) := by simp [pslP, List.range_succ]
    have eG : bls (goodP q s) ++ [.bool (q.testBit s)] = bls (goodP q (s + 1)) := by simp [bls, goodP, List.range_succ]
    have oa := fun y e => (O.na.oid (y := y) e)
    have og := fun y e => (O.ng.oid (y := y) e)
    have st := pl_in (a0 := a0) (a1 := a1) hb hlb (q := q) (n := n) (k := k) (s := s) hq hs n6 k3 (x2 := .ptr 0 0 2) (x5 := .ptr o 0 2) (R := nx0) (r := some (.agg [.fsl false n (pslP l n k q n), .fsl false n (bls (goodP q n))], Mem.empty)) k 0 (upd h nx0 (some (.cells []))) (nx0 + 1) (by omega) (by simp [rowP]) (by omega) (fun h' nx' w1 hnx' hfr0 => by
      have hfr : ∀ y, y ≠ nx0 → h' y = h y := fun y hy => by rw [hfr0 y hy, updNe hy]
      have rl : (rowP l n k q s k).length = k := by simp [rowP]
      have na1 : Nl (upd h' nx0 none) a (pslP l n k q s) lo nx0 := O.na.fr (fun y y1 y2 _ => by rw [updNe (by omega), hfr y (by omega)]) (Nat.le_refl _)
      have lR : (pslP l n k q s).length ≤ 6 := by simp [pslP]; omega
      have lG : (bls (goodP q s)).length ≤ 6 := by simp [goodP]; omega
      obtain ⟨v1, h2, n2, g1, g2, g3, g4, g5, g6, g7⟩ := na1.app (nx := nx' + 4) (by' := 24) (by omega) (by omega) (by simp; omega) (.fsl false k (ints (rowP l n k q s k)))
      have hv1 : ∀ y, objId v1 = some y → lo ≤ y ∧ (y < nx0 ∨ y = nx' + 4) := fun y e => by
        rcases g5 y e with q | q
        · have := oa y q; omega
        · omega
      have ng1 : Nl h2 g (bls (goodP q s)) lo nx0 := O.ng.fr (fun y y1 y2 ye => by
        rw [g6 y (fun e => by
          rcases g5 y e with q | q
          · exact O.dj y q ye
          · omega), updNe (by omega), hfr y (by omega)]) (Nat.le_refl _)
      obtain ⟨v2, h3, n3, u1, u2, u3, u4, u5, u6, u7⟩ := ng1.app (nx := nx' + 14) (by' := 1) (by omega) (by omega) (by simp only [room_dec, Bool.and_eq_true, decide_eq_true_eq]; omega) (.bool (q.testBit s))
      have hv2 : ∀ y, objId v2 = some y → lo ≤ y ∧ (objId g = some y ∨ y = nx' + 14) := fun y e => by
        rcases u5 y e with q | q
        · have := og y q; exact ⟨this.1, .inl q⟩
        · exact ⟨by omega, .inr q⟩
      have low : ∀ y, y < lo → h3 y = h y := fun y hy => by
        rw [u6 y (fun e => by have := hv2 y e; omega), g6 y (fun e => by have := hv1 y e; omega), updNe (by omega), hfr y (by omega)]
      have lo2 : ∀ y, y < lo → h2 y = h y := fun y hy => by
        rw [g6 y (fun e => by have := hv1 y e; omega), updNe (by omega), hfr y (by omega)]
      have ho' : h' o = some (.cells [a, g]) := by rw [hfr o (by omega)]; exact O.o
      have ho2 : h2 o = some (.cells [a, g]) := by rw [lo2 o ho]; exact O.o
      have ho3 : h3 o = some (.cells [a, g]) := by rw [low o ho]; exact O.o
      have a1' := ap_lt (z := o) (fun y e => (oa y e).1) ho
      have hwk : IntKind.wrap .i64 ((s : Int) + 1) = (s : Int) + 1 := wrap_id (by omega) (by omega)
      have fin4 : ∀ y, y < lo → y ≠ o → (upd h3 o (some (.cells [v1, v2]))) y = h y := fun y y1 y2 => by rw [updNe y2, low y y1]
      have st3 := ih (s + 1) (upd h3 o (some (.cells [v1, v2]))) (nx' + 19) v1 v2 (by omega) (by omega)
        ⟨by simp, by rw [fin4 0 (by omega) (by omega)]; exact O.z,
          by
            rw [← eR]
            exact g2.fr (fun y y1 y2 ye => by
              rw [updNe (by omega), u6 y (fun e => by
                rcases (hv2 y e).2 with q | q
                · rcases g5 y ye with w | w
                  · exact O.dj y w q
                  · have := og y q; omega
                · have := (hv1 y ye).2; omega)]) (by omega),
          by
            rw [← eG]
            exact u2.fr (fun y y1 y2 ye => by rw [updNe (by omega)]) (by omega),
          fun y e1 e2 => by
            rcases (hv2 y e2).2 with q | q
            · rcases g5 y e1 with w | w
              · exact O.dj y w q
              · have := og y q; omega
            · have := (hv1 y e1).2; omega⟩
      simp only [Int.natCast_add, Int.cast_ofNat_Int] at st3
      have hoR : (o == nx0) = false := beq_eq_false_iff_ne.2 (by omega)
      have rtk : (ints (rowP l n k q s k)).take k = ints (rowP l n k q s k) := List.take_of_length_le (by simp [rl])
      have b8 := bit8 (q := q) (s := s) hq (by omega)
      have hq2 : q / 2 ^ s < 256 := Nat.lt_of_le_of_lt (Nat.div_le_self _ _) hq
      have n8 := and8 hq2
      have htb : q.testBit s = decide (q / 2 ^ s % 2 = 1) := by rw [Nat.testBit_eq_decide_div_mod_eq]
      generalize q / 2 ^ s = qs at *
      have he8 : binA prog .eql 5 (.int .u8 (if qs % 2 = 1 then 1 else 0)) (.int .u8 1) = some (.bool (q.testBit s)) := by
        rw [htb]
        by_cases w : qs % 2 = 1 <;> simp [w]
      rw [l07_Plan_made.L2_eq]
      simp [KP2, w1, rl, rtk, hoR, ho', ho2, ho3, g1, O.na.one, O.ng.one, b8, n8, he8, u1, (show v1.one = true from g2.one), (show v2.one = true from u2.one), frz_62_66, frz_64, nsl, a1', hwk, st3, frzL, -binA_shr, -binA_and]
      done)
    simp only [Int.ofNat_zero, Int.cast_ofNat_Int, KP2] at st
    rw [l07_Plan_made.L0_eq]
    simp [hs]
    exact st
end Go.Proofs.Ythnpflkpjimkfaa

/-
  PLANS: the brand is valid. Conditions: none.
-/
namespace Go.Proofs.Ythnpflkpjimkfaa
open Go.AM
open Go.Proofs.Try (prog)
set_option linter.all false
set_option maxRecDepth 100000
set_option maxHeartbeats 8000000
theorem VB.to {rows : List (List Int)} {good : List Bool} {k : Nat} (v : VB rows good k) : validB rows good = true := by
  have h0 := v.rl 0 v.n1
  unfold validB
  simp only [Bool.and_eq_true, decide_eq_true_eq, List.all_eq_true]
  refine ⟨⟨v.n1, v.n6⟩, v.gl, ⟨by rw [h0]; exact v.k1, by rw [h0]; exact v.k3⟩, fun r hr => ?_⟩
  obtain ⟨i, hi, rfl⟩ := List.getElem_of_mem hr
  have e : cth rows i = rows[i] := by simp [cth, hi, List.getD_eq_getElem?_getD]
  have hl := v.rl i hi
  rw [e] at hl
  unfold rowOk
  simp only [Bool.and_eq_true, decide_eq_true_eq, List.all_eq_true]
  refine ⟨by rw [hl, h0], fun x hx => ?_⟩
  obtain ⟨j, hj, rfl⟩ := List.getElem_of_mem hx
  have := v.rg i j hi (by omega)
  rw [e] at this
  rw [nth_get hj]
  exact this
theorem VB.k0 {rows : List (List Int)} {good : List Bool} {k : Nat} (v : VB rows good k) : (cth rows 0).length = k := v.rl 0 v.n1
theorem planVB {l : List Nat} {n k q : Nat} (n1 : 1 ≤ n) (n6 : n ≤ 6) (k1 : 1 ≤ k) (k3 : k ≤ 3) : VB (rowsP l n k q n) (goodP q n) k := by
  have row : ∀ i, i < n → cth (rowsP l n k q n) i = rowP l n k q i k := fun i hi => by simp [cth, rowsP, hi, List.getD_eq_getElem?_getD]
  refine ⟨by simp [rowsP]; omega, by simp [rowsP]; omega, by simp [rowsP, goodP], k1, k3, fun i hi => ?_, fun i j hi hj => ?_⟩
  · rw [row i (by simpa [rowsP] using hi)]; simp [rowP]
  · have hi' : i < n := by simpa [rowsP] using hi
    rw [row i hi']
    have e : nth (rowP l n k q i k) j = ((entP l n k q i j : Nat) : Int) := by simp [nth, rowP, hj, List.getD_eq_getElem?_getD]
    have := entP_lt (l := l) (k := k) (q := q) (a := j) hi'
    rw [e]
    simp only [rowsP, List.length_map, List.length_range]
    omega
theorem planR {l : List Nat} {n k q : Nat} : IsRows (.fsl false n (pslP l n k q n)) (pslP l n k q n) (rowsP l n k q n) := by
  refine ⟨by simp [pslP, rowsP], fun i hi => ?_, .inr ⟨false, by simp [rowsP]⟩⟩
  have hi' : i < n := by simpa [rowsP] using hi
  have e1 : pth (pslP l n k q n) i = .fsl false k (ints (rowP l n k q i k)) := by simp [pth, pslP, hi', List.getD_eq_getElem?_getD]
  have e2 : cth (rowsP l n k q n) i = rowP l n k q i k := by simp [cth, rowsP, hi', List.getD_eq_getElem?_getD]
  rw [e1, e2]
  exact .inr ⟨false, by simp [rowP]⟩
theorem planG {q n : Nat} : IsB (.fsl false n (bls (goodP q n))) (goodP q n) := .inr ⟨false, by simp [goodP]⟩
theorem plan_spec {a0 a1 q : Nat} {nv : AV} {l : List Nat} (h0 : a0 < 256) (h1 : a1 < 256) (hq : q < 256) (hb : IsBy nv l) (hlb : ∀ x ∈ l, x < 256) :
    ∃ rows good k nv' gv ps, IsRows nv' ps rows ∧ IsB gv good ∧ VB rows good k ∧ ∀ m, denC prog ann 22 [.agg [.int .u8 (a0 : Nat), .int .u8 (a1 : Nat), nv, .int .u8 (q : Nat)]] m = some (.agg [nv', gv], m) := by
  have hn : 1 ≤ a0 % 6 + 1 ∧ a0 % 6 + 1 ≤ 6 := by omega
  have hk : 1 ≤ a1 % 3 + 1 ∧ a1 % 3 + 1 ≤ 3 := by omega
  refine ⟨rowsP l (a0 % 6 + 1) (a1 % 3 + 1) q (a0 % 6 + 1), goodP q (a0 % 6 + 1), a1 % 3 + 1, _, _, pslP l (a0 % 6 + 1) (a1 % 3 + 1) q (a0 % 6 + 1), planR, planG, planVB hn.1 hn.2 hk.1 hk.2, fun m => ?_⟩
  have c0 := wrapN (x := a0) (by omega)
  have c1 := wrapN (x := a1) (by omega)
  have m0 : ((a0 : Nat) : Int).tmod 6 = ((a0 % 6 : Nat) : Int) := by rw [Int.tmod_eq_emod_of_nonneg (by omega)]; simp
  have m1 : ((a1 : Nat) : Int).tmod 3 = ((a1 % 3 : Nat) : Int) := by rw [Int.tmod_eq_emod_of_nonneg (by omega)]; simp
  have w0 : IntKind.wrap .i64 (((a0 % 6 : Nat) : Int) + 1) = ((a0 % 6 + 1 : Nat) : Int) := by
    rw [wrap_id (by omega) (by omega)]; omega
  have w1 : IntKind.wrap .i64 (((a1 % 3 : Nat) : Int) + 1) = ((a1 % 3 + 1 : Nat) : Int) := by
    rw [wrap_id (by omega) (by omega)]; omega
  generalize a0 % 6 = n0 at *
  generalize a1 % 3 = k0 at *
  have lp := pl_out (a0 := a0) (a1 := a1) hb hlb (q := q) (n := n0 + 1) (k := k0 + 1) hq hn.1 hn.2 hk.1 hk.2 (o := 13) (lo := 14) (by omega) (by omega) (n0 + 1) 0 (upd (upd Mem.empty.h 0 (some (.cells [.nils, .nils]))) 13 (some (.cells [.nils, .nils]))) 14 .nils .nils (by omega) (by omega) ⟨by simp, by simp, .nil, .nil, by simp [objId]⟩
  simp only [Int.ofNat_zero, Int.cast_ofNat_Int, KP0] at lp
  rw [l07_Plan_made.call_eq _ _ (by simp [hb.closed])]
  simp [hb.one, hb.closed, c0, c1, m0, m1, w0, w1, -Int.natCast_add, -Int.natCast_emod]
  rw [lp]
  rfl
end Go.Proofs.Ythnpflkpjimkfaa

/-
  BODIES OF FUNCTIONS OF THE PROGRAM AS SMALL OPERATIONS (written by gen.py; checked by the kernel against the program). Conditions: none.
-/
namespace Go.Proofs.Ythnpflkpjimkfaa
open Go.AM
open Go.Proofs.Try (prog)
set_option maxRecDepth 100000
set_option linter.all false
namespace brand_Reset
noncomputable section
variable (K : List Item) (s : St)
def b : Code := (Try.f23.body).getD .skip
theorem hf : prog.funcs[23]? = some Try.f23 := by kernel_rfl
def r0 := findReg b 0
def r1 := findReg b 1
def i0 := findCond b 0
def i0t := thenOf i0
def i0e := elseOf i0
def r2 := findReg b 2
def r3 := findReg b 3
def r4 := findReg b 4
def r5 := findReg b 5
def k0 := findBlk b 0
def l0 := loopOf k0
def L0 (x1 x5 x6 : AV) (m : Mem) (K : List Item) : Option Res := den prog ann 23 (.code l0 :: .inLoop l0 :: .inBlock 0 :: K) ⟨[(1, x1), (5, x5), (6, x6)], 93, m⟩
def r6 := findReg b 6
def i1 := findCond b 1
def i1t := thenOf i1
def i1e := elseOf i1
def k1 := findBlk b 1
def r8 := findReg b 8
def r9 := findReg b 9
def i2 := findCond b 2
def i2t := thenOf i2
def i2e := elseOf i2
def r10 := findReg b 10
def r11 := findReg b 11
def k2 := findBlk b 2
def l2 := loopOf k2
def L2 (x1 x5 x6 x7 x47 x48 : AV) (m : Mem) (K : List Item) : Option Res := den prog ann 23 (.code l2 :: .inLoop l2 :: .inBlock 2 :: K) ⟨[(1, x1), (5, x5), (6, x6), (7, x7), (47, x47), (48, x48)], 93, m⟩
def r12 := findReg b 12
def i3 := findCond b 3
def i3t := thenOf i3
def i3e := elseOf i3
def k3 := findBlk b 3
def r13 := findReg b 13
def r14 := findReg b 14
def r15 := findReg b 15
def k4 := findBlk b 4
def l4 := loopOf k4
def L4 (x1 x5 x6 x7 x8 x9 x47 x48 x52 x53 x54 : AV) (m : Mem) (K : List Item) : Option Res := den prog ann 23 (.code l4 :: .inLoop l4 :: .inBlock 4 :: K) ⟨[(1, x1), (5, x5), (6, x6), (7, x7), (8, x8), (9, x9), (47, x47), (48, x48), (52, x52), (53, x53), (54, x54)], 93, m⟩
def r16 := findReg b 16
def i4 := findCond b 4
def i4t := thenOf i4
def i4e := elseOf i4
def k5 := findBlk b 5
def r17 := findReg b 17
def r18 := findReg b 18
def i5 := findCond b 5
def i5t := thenOf i5
def i5e := elseOf i5
def r19 := findReg b 19
def r20 := findReg b 20
def r21 := findReg b 21
def r22 := findReg b 22
def i6 := findCond b 6
def i6t := thenOf i6
def i6e := elseOf i6
def r23 := findReg b 23
def r24 := findReg b 24
def r25 := findReg b 25
def r7 := findReg b 7
def r26 := findReg b 26
theorem b_eq : den prog ann 23 (.code b :: K) s = den prog ann 23 (.code r0 :: .code r1 :: .code i0 :: .code r3 :: .code r4 :: .code r5 :: .code k0 :: .code r26 :: .code .ret :: K) s := den_flat hf (l := [r0, r1, i0, r3, r4, r5, k0, r26, .ret]) (by kernel_rfl) K s
theorem r0_eq : den prog ann 23 (.code r0 :: K) s = mreg prog ann 23 none [] none [] [qA 1 frozenPtr 0,qF 2 fun s => some (.str []),qF 3 fun s => some (.int .i64 0)] K s := (den_reg hf _ K s).trans (by kernel_rfl)
theorem r1_eq : den prog ann 23 (.code r1 :: K) s = mreg prog ann 23 none [] none [] [qA 14 (loadF true 2) 1,⟨some 15, none, .c 0 (fun s => (.fn 55 [] [])) fun s => [(s.get 14)]⟩,qA 16 (unA .not) 15] K s := (den_reg hf _ K s).trans (by kernel_rfl)
theorem i0_eq : den prog ann 23 (.code i0 :: K) s = ifV prog ann 23 16 i0t i0e K s (s.get 16) := den_if hf (by kernel_rfl) K s
theorem i0t_eq : den prog ann 23 (.code i0t :: K) s = den prog ann 23 (.code r2 :: .code .ret :: K) s := den_flat hf (l := [r2, .ret]) (by kernel_rfl) K s
theorem r2_eq : den prog ann 23 (.code r2 :: K) s = mreg prog ann 23 none [] none [] [qF 2 fun s => some (.str []),qF 3 fun s => some (.int .i64 1)] K s := (den_reg hf _ K s).trans (by kernel_rfl)
theorem i0e_eq : den prog ann 23 (.code i0e :: K) s = den prog ann 23 (K) s := den_flat hf (l := []) (by kernel_rfl) K s
theorem r3_eq : den prog ann 23 (.code r3 :: K) s = mreg prog ann 23 none [] none [] [qA 17 (fieldA 0) 1,qA 18 (loadF false 1) 17,qA 19 lenSl 18,qA 20 (binA prog .shl 3 (.int .i64 1)) 19,qF 21 fun s => binA prog .sub 3 (s.get 20) (.int .i64 1),qC 4 21] K s := (den_reg hf _ K s).trans (by kernel_rfl)
theorem r4_eq : den prog ann 23 (.code r4 :: K) s = mreg prog ann 23 none [] none [] [⟨some 22, none, .w false none fun s => some (.map s.m.nx, s.m.new (.map 0 [] []))⟩,qC 23 4,⟨none, none, .w false none fun s => updM prog s.m 3 (s.get 22) (s.get 23) (.str [])⟩,qC 24 22,qC 5 24] K s := (den_reg hf _ K s).trans (by kernel_rfl)
theorem r5_eq : den prog ann 23 (.code r5 :: K) s = mreg prog ann 23 none [] none [] [qC 25 4,⟨some 26, none, .w false none fun s => bslM s.m 1 (bslA 1 1 [.int .i64 0] [(0, (s.get 25))])⟩,qC 6 26] K s := (den_reg hf _ K s).trans (by kernel_rfl)
theorem k0_eq (K : List Item) (t : List (Nat × AV)) (m : Mem) : den prog ann 23 (.code k0 :: K) ⟨t, 93, m⟩ = L0 (get t 1) (get t 5) (get t 6) m K := den_loop_enter hf (b := l0) (id := 6) (l := [1, 5, 6]) (by kernel_rfl) (by kernel_rfl) (by kernel_rfl) K _
theorem l0_eq (K : List Item) (t : List (Nat × AV)) (m : Mem) : den prog ann 23 (.inLoop l0 :: .inBlock 0 :: K) ⟨t, 93, m⟩ = L0 (get t 1) (get t 5) (get t 6) m K := den_loop_again hf (id := 6) (l := [1, 5, 6]) (by kernel_rfl) (by kernel_rfl) (.inBlock 0 :: K) _
theorem L0_eq (x1 x5 x6 : AV) (m : Mem) (K : List Item) : L0 x1 x5 x6 m K = den prog ann 23 (.code r6 :: .code i1 :: .code k1 :: .code r7 :: .inLoop l0 :: .inBlock 0 :: K) ⟨[(1, x1), (5, x5), (6, x6)], 93, m⟩ := den_flat hf (l := [r6, i1, k1, r7]) (by kernel_rfl) _ _
theorem r6_eq : den prog ann 23 (.code r6 :: K) s = mreg prog ann 23 (some [1, 5, 6]) [] none [] [qC 27 6,qA 28 lenSl 27,qF 29 fun s => binA prog .gtr 3 (s.get 28) (.int .i64 0)] K s := (den_reg hf _ K s).trans (by kernel_rfl)
theorem i1_eq : den prog ann 23 (.code i1 :: K) s = ifV prog ann 23 29 i1t i1e K s (s.get 29) := den_if hf (by kernel_rfl) K s
theorem i1t_eq : den prog ann 23 (.code i1t :: K) s = den prog ann 23 (K) s := den_flat hf (l := []) (by kernel_rfl) K s
theorem i1e_eq : den prog ann 23 (.code i1e :: K) s = den prog ann 23 (.code (.exit 0) :: K) s := den_flat hf (l := [(.exit 0)]) (by kernel_rfl) K s
theorem k1_eq : den prog ann 23 (.code k1 :: K) s = den prog ann 23 (.code r8 :: .code r9 :: .code i2 :: .code r11 :: .code k2 :: .inBlock 1 :: K) s := den_blk hf (b := blkOf k1) (l := [r8, r9, i2, r11, k2]) (by kernel_rfl) (by kernel_rfl) K s
theorem r8_eq : den prog ann 23 (.code r8 :: K) s = mreg prog ann 23 none [] none [] [qC 32 6,qF 33 fun s => idxSl 1 (s.get 32) (.int .i64 0),qF 34 fun s => loadA false 1 s.m (s.get 33),qC 7 34] K s := (den_reg hf _ K s).trans (by kernel_rfl)
theorem r9_eq : den prog ann 23 (.code r9 :: K) s = mreg prog ann 23 none [] none [] [qC 35 7,qC 36 7,qF 37 fun s => binA prog .sub 3 (s.get 36) (.int .i64 1),qB 38 (binA prog .and 3) 35 37,qF 39 fun s => binA prog .eql 3 (s.get 38) (.int .i64 0)] K s := (den_reg hf _ K s).trans (by kernel_rfl)
theorem i2_eq : den prog ann 23 (.code i2 :: K) s = ifV prog ann 23 39 i2t i2e K s (s.get 39) := den_if hf (by kernel_rfl) K s
theorem i2t_eq : den prog ann 23 (.code i2t :: K) s = den prog ann 23 (.code r10 :: .code .ret :: K) s := den_flat hf (l := [r10, .ret]) (by kernel_rfl) K s
theorem r10_eq : den prog ann 23 (.code r10 :: K) s = mreg prog ann 23 none [] none [] [qC 40 5,qC 41 7,qF 42 fun s => lookP prog s.m 3 (.str []) (s.get 40) (s.get 41) false,qC 2 42,qF 3 fun s => some (.int .i64 0)] K s := (den_reg hf _ K s).trans (by kernel_rfl)
theorem i2e_eq : den prog ann 23 (.code i2e :: K) s = den prog ann 23 (K) s := den_flat hf (l := []) (by kernel_rfl) K s
theorem r11_eq : den prog ann 23 (.code r11 :: K) s = mreg prog ann 23 none [] none [] [qA 43 (fieldA 0) 1,qA 44 (loadF false 1) 43,qF 45 fun s => idxSl 1 (s.get 44) (.int .i64 0),qA 46 (loadF false 1) 45,qA 47 lenSl 46,qF 48 fun s => some (.int .i64 0)] K s := (den_reg hf _ K s).trans (by kernel_rfl)
theorem k2_eq (K : List Item) (t : List (Nat × AV)) (m : Mem) : den prog ann 23 (.code k2 :: K) ⟨t, 93, m⟩ = L2 (get t 1) (get t 5) (get t 6) (get t 7) (get t 47) (get t 48) m K := den_loop_enter hf (b := l2) (id := 12) (l := [1, 5, 6, 7, 47, 48]) (by kernel_rfl) (by kernel_rfl) (by kernel_rfl) K _
theorem l2_eq (K : List Item) (t : List (Nat × AV)) (m : Mem) : den prog ann 23 (.inLoop l2 :: .inBlock 2 :: K) ⟨t, 93, m⟩ = L2 (get t 1) (get t 5) (get t 6) (get t 7) (get t 47) (get t 48) m K := den_loop_again hf (id := 12) (l := [1, 5, 6, 7, 47, 48]) (by kernel_rfl) (by kernel_rfl) (.inBlock 2 :: K) _
theorem L2_eq (x1 x5 x6 x7 x47 x48 : AV) (m : Mem) (K : List Item) : L2 x1 x5 x6 x7 x47 x48 m K = den prog ann 23 (.code r12 :: .code i3 :: .code k3 :: .code r25 :: .inLoop l2 :: .inBlock 2 :: K) ⟨[(1, x1), (5, x5), (6, x6), (7, x7), (47, x47), (48, x48)], 93, m⟩ := den_flat hf (l := [r12, i3, k3, r25]) (by kernel_rfl) _ _
theorem r12_eq : den prog ann 23 (.code r12 :: K) s = mreg prog ann 23 (some [1, 5, 6, 7, 47, 48]) [] none [] [qB 49 (binA prog .lss 3) 48 47] K s := (den_reg hf _ K s).trans (by kernel_rfl)
theorem i3_eq : den prog ann 23 (.code i3 :: K) s = ifV prog ann 23 49 i3t i3e K s (s.get 49) := den_if hf (by kernel_rfl) K s
theorem i3t_eq : den prog ann 23 (.code i3t :: K) s = den prog ann 23 (K) s := den_flat hf (l := []) (by kernel_rfl) K s
theorem i3e_eq : den prog ann 23 (.code i3e :: K) s = den prog ann 23 (.code (.exit 2) :: K) s := den_flat hf (l := [(.exit 2)]) (by kernel_rfl) K s
theorem k3_eq : den prog ann 23 (.code k3 :: K) s = den prog ann 23 (.code r13 :: .code r14 :: .code r15 :: .code k4 :: .code r21 :: .code r22 :: .code i6 :: .inBlock 3 :: K) s := den_blk hf (b := blkOf k3) (l := [r13, r14, r15, k4, r21, r22, i6]) (by kernel_rfl) (by kernel_rfl) K s
theorem r13_eq : den prog ann 23 (.code r13 :: K) s = mreg prog ann 23 none [] none [] [qC 50 48,qC 8 50] K s := (den_reg hf _ K s).trans (by kernel_rfl)
theorem r14_eq : den prog ann 23 (.code r14 :: K) s = mreg prog ann 23 none [] none [] [qF 9 fun s => some (.int .i64 0)] K s := (den_reg hf _ K s).trans (by kernel_rfl)
theorem r15_eq : den prog ann 23 (.code r15 :: K) s = mreg prog ann 23 none [] none [] [qA 51 (fieldA 0) 1,qA 52 (loadF false 1) 51,qA 53 lenSl 52,qF 54 fun s => some (.int .i64 0)] K s := (den_reg hf _ K s).trans (by kernel_rfl)
theorem k4_eq (K : List Item) (t : List (Nat × AV)) (m : Mem) : den prog ann 23 (.code k4 :: K) ⟨t, 93, m⟩ = L4 (get t 1) (get t 5) (get t 6) (get t 7) (get t 8) (get t 9) (get t 47) (get t 48) (get t 52) (get t 53) (get t 54) m K := den_loop_enter hf (b := l4) (id := 16) (l := [1, 5, 6, 7, 8, 9, 47, 48, 52, 53, 54]) (by kernel_rfl) (by kernel_rfl) (by kernel_rfl) K _
theorem l4_eq (K : List Item) (t : List (Nat × AV)) (m : Mem) : den prog ann 23 (.inLoop l4 :: .inBlock 4 :: K) ⟨t, 93, m⟩ = L4 (get t 1) (get t 5) (get t 6) (get t 7) (get t 8) (get t 9) (get t 47) (get t 48) (get t 52) (get t 53) (get t 54) m K := den_loop_again hf (id := 16) (l := [1, 5, 6, 7, 8, 9, 47, 48, 52, 53, 54]) (by kernel_rfl) (by kernel_rfl) (.inBlock 4 :: K) _
theorem L4_eq (x1 x5 x6 x7 x8 x9 x47 x48 x52 x53 x54 : AV) (m : Mem) (K : List Item) : L4 x1 x5 x6 x7 x8 x9 x47 x48 x52 x53 x54 m K = den prog ann 23 (.code r16 :: .code i4 :: .code k5 :: .code r20 :: .inLoop l4 :: .inBlock 4 :: K) ⟨[(1, x1), (5, x5), (6, x6), (7, x7), (8, x8), (9, x9), (47, x47), (48, x48), (52, x52), (53, x53), (54, x54)], 93, m⟩ := den_flat hf (l := [r16, i4, k5, r20]) (by kernel_rfl) _ _
theorem r16_eq : den prog ann 23 (.code r16 :: K) s = mreg prog ann 23 (some [1, 5, 6, 7, 8, 9, 47, 48, 52, 53, 54]) [] none [] [qB 55 (binA prog .lss 3) 54 53] K s := (den_reg hf _ K s).trans (by kernel_rfl)
theorem i4_eq : den prog ann 23 (.code i4 :: K) s = ifV prog ann 23 55 i4t i4e K s (s.get 55) := den_if hf (by kernel_rfl) K s
theorem i4t_eq : den prog ann 23 (.code i4t :: K) s = den prog ann 23 (K) s := den_flat hf (l := []) (by kernel_rfl) K s
theorem i4e_eq : den prog ann 23 (.code i4e :: K) s = den prog ann 23 (.code (.exit 4) :: K) s := den_flat hf (l := [(.exit 4)]) (by kernel_rfl) K s
theorem k5_eq : den prog ann 23 (.code k5 :: K) s = den prog ann 23 (.code r17 :: .code r18 :: .code i5 :: .inBlock 5 :: K) s := den_blk hf (b := blkOf k5) (l := [r17, r18, i5]) (by kernel_rfl) (by kernel_rfl) K s
theorem r17_eq : den prog ann 23 (.code r17 :: K) s = mreg prog ann 23 none [] none [] [qC 56 54,qB 57 (idxSl 1) 52 54,qA 58 (loadF false 1) 57,qC 10 56,qC 11 58] K s := (den_reg hf _ K s).trans (by kernel_rfl)
theorem r18_eq : den prog ann 23 (.code r18 :: K) s = mreg prog ann 23 none [] none [] [qC 59 7,qC 60 10,qB 61 (binA prog .shr 3) 59 60,qF 62 fun s => binA prog .and 3 (s.get 61) (.int .i64 1),qF 63 fun s => binA prog .eql 3 (s.get 62) (.int .i64 1)] K s := (den_reg hf _ K s).trans (by kernel_rfl)
theorem i5_eq : den prog ann 23 (.code i5 :: K) s = ifV prog ann 23 63 i5t i5e K s (s.get 63) := den_if hf (by kernel_rfl) K s
theorem i5t_eq : den prog ann 23 (.code i5t :: K) s = den prog ann 23 (.code r19 :: K) s := den_flat hf (l := [r19]) (by kernel_rfl) K s
theorem r19_eq : den prog ann 23 (.code r19 :: K) s = mreg prog ann 23 none [] none [] [qC 64 9,qC 65 11,qC 66 8,qB 67 (idxSl 1) 65 66,qA 68 (loadF false 1) 67,qA 69 (binA prog .shl 3 (.int .i64 1)) 68,qB 70 (binA prog .or 3) 64 69,qC 9 70] K s := (den_reg hf _ K s).trans (by kernel_rfl)
theorem i5e_eq : den prog ann 23 (.code i5e :: K) s = den prog ann 23 (K) s := den_flat hf (l := []) (by kernel_rfl) K s
theorem r20_eq : den prog ann 23 (.code r20 :: K) s = mreg prog ann 23 (some [1, 5, 6, 7, 8, 9, 47, 48, 52, 53, 54]) [] none [] [qF 71 fun s => binA prog .add 3 (s.get 54) (.int .i64 1),qC 54 71] K s := (den_reg hf _ K s).trans (by kernel_rfl)
theorem r21_eq : den prog ann 23 (.code r21 :: K) s = mreg prog ann 23 (some [1, 5, 6, 7, 8, 9, 47, 48]) [] none [] [qC 73 5,qC 74 9,qF 75 fun s => lookP prog s.m 3 (.str []) (s.get 73) (s.get 74) true,qC 72 75,qF 76 fun s => extA (s.get 72) 0,qF 77 fun s => extA (s.get 72) 1,qC 12 76,qC 13 77] K s := (den_reg hf _ K s).trans (by kernel_rfl)
theorem r22_eq : den prog ann 23 (.code r22 :: K) s = mreg prog ann 23 none [] none [] [qC 78 13,qA 79 (unA .not) 78] K s := (den_reg hf _ K s).trans (by kernel_rfl)
theorem i6_eq : den prog ann 23 (.code i6 :: K) s = ifV prog ann 23 79 i6t i6e K s (s.get 79) := den_if hf (by kernel_rfl) K s
theorem i6t_eq : den prog ann 23 (.code i6t :: K) s = den prog ann 23 (.code r23 :: .code r24 :: K) s := den_flat hf (l := [r23, r24]) (by kernel_rfl) K s
theorem r23_draw : drawOk (fun g => (ann g).pure) (modeOf (ann 23) (idOf r23)) (frzOf (ann 23) (idOf r23)) (opsOf r23) = true := drawOk_of (an := [0, 0, 0, 0, 12, 0, 32, 124, 255]) (by kernel_rfl) (by kernel_rfl)
theorem r23_eq : den prog ann 23 (.code r23 :: K) s = mreg prog ann 23 none [] (some 9) [] [qC 80 5,qC 81 9,qC 82 5,qC 83 7,qF 84 fun s => lookP prog s.m 3 (.str []) (s.get 82) (s.get 83) false,qC 85 8,⟨some 86, none, .c 0 (fun s => (.fn 59 [] [])) fun s => [(s.get 85)]⟩,qB 87 (binA prog .add 9) 84 86,⟨none, none, .w false (some 8) fun s => updM prog s.m 3 (s.get 80) (s.get 81) (s.get 87)⟩] K s := (den_regD hf r23_draw K s).trans (by kernel_rfl)
theorem r24_eq : den prog ann 23 (.code r24 :: K) s = mreg prog ann 23 none [] none [] [qC 88 6,qC 89 9,qF 90 fun s => bslF 1 (bslA 1 1 [.int .i64 0] [(0, (s.get 89))]),⟨some 91, none, .w false none fun s => appendA 1 8 s.m (s.get 88) (s.get 90)⟩,qC 6 91] K s := (den_reg hf _ K s).trans (by kernel_rfl)
theorem i6e_eq : den prog ann 23 (.code i6e :: K) s = den prog ann 23 (K) s := den_flat hf (l := []) (by kernel_rfl) K s
theorem r25_eq : den prog ann 23 (.code r25 :: K) s = mreg prog ann 23 (some [1, 5, 6, 7, 47, 48]) [] none [] [qF 92 fun s => binA prog .add 3 (s.get 48) (.int .i64 1),qC 48 92] K s := (den_reg hf _ K s).trans (by kernel_rfl)
theorem r7_eq : den prog ann 23 (.code r7 :: K) s = mreg prog ann 23 (some [1, 5, 6]) [] none [] [qC 30 6,qF 31 fun s => sliceSl 1 (s.get 30) (some (.int .i64 1)) none,qC 6 31] K s := (den_reg hf _ K s).trans (by kernel_rfl)
theorem r26_eq : den prog ann 23 (.code r26 :: K) s = mreg prog ann 23 (some []) [] none [] [qF 2 fun s => some (.str []),qF 3 fun s => some (.int .i64 5)] K s := (den_reg hf _ K s).trans (by kernel_rfl)
theorem ret_eq : den prog ann 23 (.code .ret :: K) s = finM true [fun s => some (s.get 2), fun s => some (s.get 3)] s := (den_ret hf K s).trans (by kernel_rfl)
theorem nil_eq (s : St) : den prog ann 23 [] s = finM true [fun s => some (s.get 2), fun s => some (s.get 3)] s := (den_nil hf s).trans (by kernel_rfl)
theorem inBlock_eq (id : Nat) (K : List Item) (s : St) : den prog ann 23 (.inBlock id :: K) s = den prog ann 23 K s := den_inBlock hf id K s
theorem exit_eq (id : Nat) (K : List Item) (s : St) : den prog ann 23 (.code (.exit id) :: K) s = exitV prog ann 23 (exitTo id K) s := den_exitV hf id K s
theorem call_eq (v0 : AV) (m : Mem) (h : closedL [v0] = true) : denC prog ann 23 [v0] m = (den prog ann 23 [.code b] ⟨[(0, v0)], 93, Mem.empty⟩).bind fun r => some (r.1, m) := (denC_pure hf (b := b) (by kernel_rfl) (by kernel_rfl) (by kernel_rfl) h m).trans (by kernel_rfl)
theorem pure_eq : (ann 23).pure = true := by kernel_rfl
attribute [simp] b_eq r0_eq r1_eq i0_eq i0t_eq r2_eq i0e_eq r3_eq r4_eq r5_eq k0_eq l0_eq r6_eq i1_eq i1t_eq i1e_eq k1_eq r8_eq r9_eq i2_eq i2t_eq r10_eq i2e_eq r11_eq k2_eq l2_eq r12_eq i3_eq i3t_eq i3e_eq k3_eq r13_eq r14_eq r15_eq k4_eq l4_eq r16_eq i4_eq i4t_eq i4e_eq k5_eq r17_eq r18_eq i5_eq i5t_eq r19_eq i5e_eq r20_eq r21_eq r22_eq i6_eq i6t_eq r23_eq r24_eq i6e_eq r25_eq r7_eq r26_eq ret_eq nil_eq inBlock_eq exit_eq pure_eq
end
end brand_Reset
end Go.Proofs.Ythnpflkpjimkfaa

/-
  THE LEAST WORD THAT LEADS ALL STATES TO ONE: the program's search. Conditions: none.
-/
namespace Go.Proofs.Ythnpflkpjimkfaa
open Go.AM
open Go.Proofs.Try (prog)
set_option linter.all false
set_option maxRecDepth 100000
set_option maxHeartbeats 8000000
theorem rst_bits {nv gv : AV} {ps : List AV} {rows : List (List Int)} {good : List Bool} {k : Nat} (hn : IsRows nv ps rows) (v : VB rows good k) {x a : Nat} (hx : x < 64) (ha : a < k) {x1 x5 x6 x47 x48 : AV} {K : List Item} {m : Mem} : ∀ (j s y : Nat), s + j = rows.length → y < 64 →
    brand_Reset.L4 x1 x5 x6 (.int .i64 x) (.int .i64 a) (.int .i64 y) x47 x48 nv (.int .i64 rows.length) (.int .i64 s) m K = brand_Reset.L4 x1 x5 x6 (.int .i64 x) (.int .i64 a) (.int .i64 (stepB rows x a j s y)) x47 x48 nv (.int .i64 rows.length) (.int .i64 rows.length) m K := by
  intro j
  induction j with
  | zero =>
    intro s y h1 hy
    have : s = rows.length := by omega
    subst this
    rfl
  | succ j ih =>
    intro s y h1 hy
    have hs : s < rows.length := by omega
    have n6 := v.n6
    obtain ⟨c1, c2⟩ := nx_lt v hs ha
    have b := v.rl s hs
    have iw := hn.row s hs
    have d1 := iw.idx (i := a) (by omega) .i64
    have e1 := ints_head (l := cth rows s) (i := a) (by omega)
    rw [c2] at e1
    have hws : IntKind.wrap .i64 ((s : Int) + 1) = (s : Int) + 1 := wrap_id (by omega) (by omega)
    have f1 := shr_b hx (s := s) (by omega)
    have f2 := one_b (s := s) hx
    have f3 := shl_b (n := nx rows s a) (by omega)
    have hp := pwB_lt (t := nx rows s a) (by omega)
    have f4 := or_b (x := y) (y := pwB (nx rows s a)) (by omega) (by omega)
    rw [stepB]
    by_cases c : shB x s % 2 = 1
    · have st := ih (s + 1) (y ||| pwB (nx rows s a)) (by omega) (Nat.or_lt_two_pow (n := 6) hy hp)
      simp only [Int.natCast_add, Int.cast_ofNat_Int] at st
      rw [if_pos c] at f2
      rw [if_pos c, ← st, brand_Reset.L4_eq]
      simp [hs, hn.idx hs, hn.head hs, d1, e1, f1, f2, f3, f4, hws, -binA_shl, -binA_shr, -binA_and, -binA_or]
      done
    · have st := ih (s + 1) y (by omega) hy
      simp only [Int.natCast_add, Int.cast_ofNat_Int] at st
      rw [if_neg c] at f2
      rw [if_neg c, ← st, brand_Reset.L4_eq]
      simp [hs, hn.idx hs, hn.head hs, d1, e1, f1, f2, hws, -binA_shl, -binA_shr, -binA_and, -binA_or]
      done
noncomputable def KS : List Item := [.code brand_Reset.r26, .code .ret]
noncomputable def KSI : List Item := .inBlock 1 :: .code brand_Reset.r7 :: .inLoop brand_Reset.l0 :: .inBlock 0 :: KS
theorem rst_in {nv gv : AV} {ps : List AV} {rows : List (List Int)} {good : List Bool} {k : Nat} (hn : IsRows nv ps rows) (v : VB rows good k) {iw i x : Nat} {w : List UInt8} (hx : x < 64) {r : Res} :
    ∀ (j a iq : Nat) (m : Mem) (q : AV) (S : List Nat × List (List UInt8)), a + j = k → Mp m iw (S.1.map encS) (S.2.map .str) → Gl m q iq 1 (S.1.length - i) ((S.1.drop i).map encS) → iw ≠ iq → S.1[i]? = some x → S.2[i]? = some w → BOk (· < 64) List.length S →
    (∀ m' q' iq', Mp m' iw ((bIn (nxS rows) extL x w j a S).1.map encS) ((bIn (nxS rows) extL x w j a S).2.map .str) → Gl m' q' iq' 1 ((bIn (nxS rows) extL x w j a S).1.length - i) (((bIn (nxS rows) extL x w j a S).1.drop i).map encS) → iw ≠ iq' →
      brand_Reset.L0 (.fptr [nv, gv]) (.map iw) (tlV q' 1) m' KS = some r) →
    brand_Reset.L2 (.fptr [nv, gv]) (.map iw) q (.int .i64 x) (.int .i64 k) (.int .i64 a) m KSI = some r := by
  intro j
  induction j with
  | zero =>
    intro a iq m q S h1 hm hq hne hS1 hS2 hS hk
    have e : a = k := by omega
    subst e
    have hi := (List.getElem?_eq_some_iff.1 hS1).1
    have hk := hk m q iq hm hq hne
    rw [brand_Reset.L2_eq]
    simp [KSI, hq.cut (by omega), hk]
    done
  | succ j ih =>
    intro a iq m q S h1 hm hq hne hS1 hS2 hS hk
    have ha : a < k := by omega
    have hi := (List.getElem?_eq_some_iff.1 hS1).1
    have n6 := v.n6
    have hwi : IntKind.wrap .i64 ((a : Int) + 1) = (a : Int) + 1 := wrap_id (by omega) (by have := v.k3; omega)
    have ha3 : a < 3 := by have := v.k3; omega
    have hlt := fun m => letter_spec ha3 m
    have hiq : iq < m.nx := hq.lt
    have hiw : iw < m.nx := hm.2
    have few := sets_few hS.nd hS.all
    have K := keysS (· < 64)
    have hy : nxS rows x a < 64 := stepB_lt v ha rows.length 0 0 (by omega) (by omega)
    have sb := fun (x1 x5 x6 x47 x48 : AV) (m : Mem) (K : List Item) => rst_bits (gv := gv) hn v hx ha (x1 := x1) (x5 := x5) (x6 := x6) (x47 := x47) (x48 := x48) (m := m) (K := K) rows.length 0 0 (by omega) (by omega)
    simp only [Int.ofNat_zero, Int.cast_ofNat_Int] at sb
    have sb' : stepB rows x a rows.length 0 0 = nxS rows x a := rfl
    simp only [sb'] at sb
    have l1 := fun z b => hm.look K hS.all hS.len hy z b
    have l2 := fun z b => hm.look K hS.all hS.len (c := x) hx z b
    rw [lkP_at hS.nd hS1 hS2] at l2
    simp only [encS] at l1 l2
    rw [bIn] at hk
    by_cases hc : nxS rows x a ∈ S.1
    · rw [if_pos hc] at hk
      obtain ⟨i', hi'⟩ := List.getElem?_of_mem hc
      have hi2 : i' < S.2.length := by rw [← hS.len]; exact (List.getElem?_eq_some_iff.1 hi').1
      have q1 := lkP_at hS.nd hi' (List.getElem?_eq_getElem hi2)
      rw [q1] at l1
      have st := ih (a + 1) iq m q S (by omega) hm hq hne hS1 hS2 hS hk
      simp only [Int.natCast_add, Int.cast_ofNat_Int] at st
      rw [brand_Reset.L2_eq]
      simp [ha, hn.len, sb]
      rw [brand_Reset.L4_eq]
      simp [l1, hwi, st]
      done
    · rw [if_neg hc] at hk
      have q1 := lkP_none (vs := S.2) hc
      rw [q1] at l1
      have hwl : w.length ≤ 64 := by
        have h1 := hS.wl w (List.mem_of_getElem? hS2)
        have h2 := hS.len
        omega
      have hll : w.length + (ltr a).length ≤ 4611686018427387904 := by simp [ltr]; omega
      have l2' := fun n => (hm.fr (m' := ⟨m.h, n⟩) rfl)
      have hm2 : Mp ⟨m.h, m.nx + 9⟩ iw (S.1.map encS) (S.2.map .str) := hm.fr rfl (by show iw < m.nx + 9; omega)
      have hm3 : Mp ⟨m.h, m.nx + 8⟩ iw (S.1.map encS) (S.2.map .str) := hm.fr rfl (by show iw < m.nx + 8; omega)
      have l2 := fun z b => hm2.look K hS.all hS.len (c := x) hx z b
      rw [lkP_at hS.nd hS1 hS2] at l2
      simp only [encS] at l2
      obtain ⟨m2, p1, p2, p3, p4⟩ := hm3.put K hS.all hS.len hy hc (extL w a)
      simp only [encS, extL] at p1
      have hq2 : Gl ⟨m2.h, m.nx + 9⟩ q iq 1 (S.1.length - i) ((S.1.drop i).map encS) := hq.fr (by show m2.h iq = m.h iq; rw [p4 iq (fun e => hne e.symm)]) (by show iq < m.nx + 9; omega)
      obtain ⟨q', m3, iq', g1, g2, g3, g4, g5⟩ := hq2.app (by' := 8) (ys := [encS (nxS rows x a)]) rfl (by simp; omega)
      have hm4 : Mp m3 iw ((S.1 ++ [nxS rows x a]).map encS) ((S.2 ++ [extL w a]).map .str) := p2.fr (by
        have := g5 iw (by show iw < m.nx + 9; omega) hne
        exact this) (by
        have h1 : m.nx + 9 ≤ m3.nx := g3
        omega)
      have st := ih (a + 1) iq' m3 q' (S.1 ++ [nxS rows x a], S.2 ++ [extL w a]) (by omega) hm4 (by
        have e : (S.1 ++ [nxS rows x a]).length - i = S.1.length - i + 1 := by simp; omega
        show Gl m3 q' iq' 1 ((S.1 ++ [nxS rows x a]).length - i) (((S.1 ++ [nxS rows x a]).drop i).map encS)
        rw [e, List.drop_append_of_le_length (by omega), List.map_append]
        exact g2) (by
        rcases g4 with e | e
        · rw [e]; exact hne
        · rw [e]; show iw ≠ m.nx + 9; omega) (by rw [List.getElem?_append_left (by omega)]; exact hS1) (by rw [List.getElem?_append_left (by rw [← hS.len]; omega)]; exact hS2) (bok_add hS hy hc (by
        have := hS.wl w (List.mem_of_getElem? hS2)
        simp [extL, ltr]; omega)) hk
      simp only [Int.natCast_add, Int.cast_ofNat_Int] at st
      simp only [encS] at g1
      rw [brand_Reset.L2_eq]
      simp [ha, hn.len, sb]
      rw [brand_Reset.L4_eq]
      simp [l1, hwi, l2, hlt, hll, p1, hq.one, g1, g2.one, st]
      done
theorem rst_out {nv gv : AV} {ps : List AV} {rows : List (List Int)} {good : List Bool} {k : Nat} (hn : IsRows nv ps rows) (v : VB rows good k) {iw : Nat} :
    ∀ (f i iq : Nat) (m : Mem) (q : AV) (S : List Nat × List (List UInt8)), Mp m iw (S.1.map encS) (S.2.map .str) → Gl m q iq 1 (S.1.length - i) ((S.1.drop i).map encS) → iw ≠ iq → BOk (· < 64) List.length S → i ≤ S.1.length → 64 < f + i →
    brand_Reset.L0 (.fptr [nv, gv]) (.map iw) q m KS = some (resP (bfs (nxS rows) extL stS k f i S), Mem.empty) := by
  intro f
  induction f with
  | zero =>
    intro i iq m q S hm hq hne hS hi hf
    have few := sets_few hS.nd hS.all
    omega
  | succ f ih =>
    intro i iq m q S hm hq hne hS hi hf
    by_cases c : i < S.1.length
    · have hx := List.getElem?_eq_getElem c
      have c2 : i < S.2.length := by rw [← hS.len]; exact c
      have hw := List.getElem?_eq_getElem c2
      generalize S.1[i] = x at hx
      generalize S.2[i] = w at hw
      have hx6 : x < 64 := hS.all x (List.mem_of_getElem? hx)
      have sok : 0 < S.1.length - i := by omega
      rw [bfs, hx, hw]
      simp only []
      have ld := hq.load1 (i := 0) (by omega)
      have e0 : ((S.1.drop i).map encS)[0]? = some (encS x) := by simp [hx]
      rw [e0] at ld
      have hi0 := hq.idx0 (by omega) .i64
      have few := sets_few hS.nd hS.all
      have l1 := fun z b => hm.look (keysS (· < 64)) hS.all hS.len (c := x) hx6 z b
      rw [lkP_at hS.nd hx hw] at l1
      have f1 := low_b hx6
      simp only [encS] at l1 ld
      by_cases hst : stS x = true
      · rw [if_pos hst]
        have hst' : lowB x = 0 := by simpa [stS] using hst
        rw [hst'] at f1
        simp only [Int.ofNat_zero, Int.cast_ofNat_Int] at f1
        rw [brand_Reset.L0_eq]
        simp [hq.len, sok, hi0, ld, f1, l1, resP, -binA_and]
        done
      · rw [if_neg hst]
        have hst' : ¬ lowB x = 0 := by simpa [stS] using hst
        have r0 := v.rl 0 v.n1
        have i0 := hn.idx (i := 0) v.n1 .i64
        have j0 := hn.head (i := 0) v.n1
        have iw0 := hn.row 0 v.n1
        have st := rst_in (gv := gv) hn v (iw := iw) (i := i) (x := x) (w := w) hx6 k 0 iq m q S (by omega) hm hq hne hx hw hS (fun m' q' iq' h1 h2 h3 => by
          obtain ⟨p', q'', e1, e2⟩ := bIn_pre (nxS rows) extL x w k 0 S
          have hS' := bIn_ok (nxS rows) extL (ok := (· < 64)) (ln := List.length) (k := k) (fun y a hy ha => stepB_lt v ha rows.length 0 0 (by omega) (by omega)) (fun w a => by simp [extL, ltr]) x w hx6 k 0 S (by omega) hS (hS.wl w (List.mem_of_getElem? hw))
          have hlen : i < (bIn (nxS rows) extL x w k 0 S).1.length := by rw [e1]; simp; omega
          have ht := h2.tail (by omega)
          exact ih (i + 1) iq' m' _ _ h1 (by
            have e : (bIn (nxS rows) extL x w k 0 S).1.length - (i + 1) = (bIn (nxS rows) extL x w k 0 S).1.length - i - 1 := by omega
            rw [e, ← List.drop_drop, List.map_drop]; exact ht) h3 hS' (by omega) (by omega))
        simp only [Int.ofNat_zero, Int.cast_ofNat_Int] at st i0
        rw [List.drop_zero] at i0 j0
        rw [brand_Reset.L0_eq]
        simp [hq.len, sok, hi0, ld, f1, hst', i0, j0, iw0.len, r0, -binA_and, show ¬ (lowB x : Int) = 0 by omega]
        exact st
    · have c0 : S.1.length - i = 0 := by omega
      have hx : S.1[i]? = none := List.getElem?_eq_none (by omega)
      have hl := hq.len
      rw [c0] at hl
      rw [bfs, hx, brand_Reset.L0_eq]
      simp [hl, resP, KS]
      done
theorem all_b {rows : List (List Int)} {good : List Bool} {k : Nat} (v : VB rows good k) : IntKind.wrap .i64 ((pwB rows.length : Int) - 1) = ((pwB rows.length - 1 : Nat) : Int) ∧ pwB rows.length - 1 < 64 := by
  have n6 := v.n6
  have h : pwB rows.length ≤ 64 := Nat.pow_le_pow_right (i := rows.length) (j := 6) (by omega) n6
  have h0 : 0 < pwB rows.length := Nat.pow_pos (by omega)
  exact ⟨by rw [wrap_id (by omega) (by omega)]; omega, by omega⟩
theorem reset_spec {nv gv : AV} {ps : List AV} {rows : List (List Int)} {good : List Bool} (hn : IsRows nv ps rows) (hg : IsB gv good) (hl : rows.length ≤ 1000) (hgl : good.length ≤ 1000) (hr : ∀ i, i < rows.length → (cth rows i).length ≤ 1000) (m : Mem) :
    denC prog ann 23 [.agg [nv, gv]] m = some (if validB rows good = true then resP (rstW rows (cth rows 0).length) else .tup [.str [], .int .i64 1], m) := by
  have h1 := fun m => valid_spec hn hg hl hgl hr m
  rw [brand_Reset.call_eq _ _ (by simp [hn.closed, hg.closed])]
  cases c0 : validB rows good with
  | false =>
    rw [c0] at h1
    simp [hn.one, hg.one, hn.closed, hg.closed, h1]
    done
  | true =>
    rw [c0] at h1
    have v := VB.of c0
    obtain ⟨f0, f1⟩ := all_b v
    have f2 := shl_b v.n6
    have hm0 : Mp ⟨upd Mem.empty.h 0 (some (AObj.map 0 [] [])), 1⟩ 0 (([] : List Nat).map encS) (([] : List (List UInt8)).map .str) := ⟨⟨0, by simp⟩, by show 0 < 1; omega⟩
    obtain ⟨m1, p1, p2, p3, p4⟩ := hm0.put (keysS (· < 64)) (by simp) rfl f1 (by simp) []
    simp only [encS] at p1
    have p3 : m1.nx = 1 := p3
    have st := rst_out (gv := gv) hn v (iw := 0) 65 0 1 ⟨upd m1.h 1 (some (AObj.cells [.int .i64 ((pwB rows.length - 1 : Nat) : Int)])), 2⟩ (.sl 1 1 0 1 1) ([pwB rows.length - 1], [[]]) (p2.fr (show upd m1.h 1 (some (AObj.cells [.int .i64 ((pwB rows.length - 1 : Nat) : Int)])) 0 = m1.h 0 from updNe (by omega)) (by show 0 < 2; omega)) ⟨⟨[], rfl, by simp [encS]⟩, rfl, by show 1 < 2; omega⟩ (by omega) ⟨by simp, by simpa using f1, rfl, by simp⟩ (by simp) (by omega)
    simp [hn.one, hg.one, hn.closed, hg.closed, h1, hn.len, f2, f0, p1, p3, -binA_shl]
    simp only [KS] at st
    rw [st]
    rfl
end Go.Proofs.Ythnpflkpjimkfaa

/-
  THE LEAST WORD THAT ONLY ONE OF TWO BRANDS ACCEPTS: the specification's search. Conditions: none.
-/
namespace Go.Proofs.Ythnpflkpjimkfaa
open Go.AM
open Go.Proofs.Try (prog)
set_option linter.all false
set_option maxRecDepth 100000
set_option maxHeartbeats 8000000
structure Rd (m : Mem) (x6 x7 : AV) (i6 i7 i8 : Nat) (S : List PN × List (List UInt8)) : Prop where
  p : Gl m x6 i6 2 S.1.length (flP S.1)
  w : Gl m x7 i7 1 S.2.length (S.2.map .str)
  k : Mp m i8 (S.1.map encP) ((S.1.map fun _ => true).map .bool)
  d1 : i6 ≠ i7
  d2 : i6 ≠ i8
  d3 : i7 ≠ i8
end Go.Proofs.Ythnpflkpjimkfaa

/-
  THE LEAST WORD THAT LEADS ALL STATES TO ONE: the specification's search. Conditions: none.
-/
namespace Go.Proofs.Ythnpflkpjimkfaa
open Go.AM
open Go.Proofs.Try (prog)
set_option linter.all false
set_option maxRecDepth 100000
set_option maxHeartbeats 8000000
structure Rs (m : Mem) (x6 x7 : AV) (i6 i7 i8 : Nat) (S : List Nat × List (List UInt8)) : Prop where
  p : Gl m x6 i6 1 S.1.length (S.1.map encS)
  w : Gl m x7 i7 1 S.2.length (S.2.map .str)
  k : Mp m i8 (S.1.map encS) ((S.1.map fun _ => true).map .bool)
  d1 : i6 ≠ i7
  d2 : i6 ≠ i8
  d3 : i7 ≠ i8
end Go.Proofs.Ythnpflkpjimkfaa

/-
  BrandAccepts: the law answers true. Conditions: none.
-/
namespace Go.Proofs.Ythnpflkpjimkfaa
open Go.AM
open Go.Proofs.Try (prog)
set_option linter.all false
set_option maxRecDepth 100000
set_option maxHeartbeats 8000000
theorem IsRows.cells {v : AV} {ps : List AV} {rows : List (List Int)} (h : IsRows v ps rows) : v.cells = [v] := by rcases h.val with ⟨rfl, _⟩ | ⟨_, rfl⟩ <;> rfl
end Go.Proofs.Ythnpflkpjimkfaa

/-
  BrandTurned: the law answers true. Conditions: none.
-/
namespace Go.Proofs.Ythnpflkpjimkfaa
open Go.AM
open Go.Proofs.Try (prog)
set_option linter.all false
set_option maxRecDepth 100000
set_option maxHeartbeats 8000000
section
variable {rows : List (List Int)} {good : List Bool} {k : Nat}
theorem numS_congr {al al' : Nat → Nat → Bool} {n s : Nat} {P : List Nat} (h : ∀ s t, s < n → t < n → al s t = al' s t) (hs : s < n) (hP : ∀ x ∈ P, x < n) : numS al s P = numS al' s P := by
  have : P.any (al s) = P.any (al' s) := by
    rw [Bool.eq_iff_iff, List.any_eq_true, List.any_eq_true]
    constructor
    · rintro ⟨x, hx, e⟩; exact ⟨x, hx, by rw [← h s x hs (hP x hx)]; exact e⟩
    · rintro ⟨x, hx, e⟩; exact ⟨x, hx, by rw [h s x hs (hP x hx)]; exact e⟩
  rw [numS, numS, this]
theorem ded_congr {al al' : Nat → Nat → Bool} {n : Nat} (h : ∀ s t, s < n → t < n → al s t = al' s t) : ∀ (R P : List Nat), (∀ x ∈ R, x < n) → (∀ x ∈ P, x < n) → R.foldl (fun P s => numS al s P) P = R.foldl (fun P s => numS al' s P) P
  | [], P, _, _ => rfl
  | r :: R, P, hR, hP => by
    rw [List.foldl_cons, List.foldl_cons, numS_congr h (hR r (by simp)) hP]
    refine ded_congr h R _ (fun x hx => hR x (by simp [hx])) (fun x hx => ?_)
    rw [numS] at hx
    split at hx
    · exact hP x hx
    · rcases List.mem_append.1 hx with hx | hx
      · exact hP x hx
      · simp at hx; subst hx; exact hR x (by simp)
theorem idxA_congr {al al' : Nat → Nat → Bool} {n s : Nat} {P : List Nat} (h : ∀ s t, s < n → t < n → al s t = al' s t) (hs : s < n) (hP : ∀ x ∈ P, x < n) : idxA al P s = idxA al' P s := by
  rw [idxA, idxA]
  induction P with
  | nil => rfl
  | cons x P ih =>
    rw [List.findIdx_cons, List.findIdx_cons, h s x hs (hP x (by simp)), ih (fun y hy => hP y (by simp [hy]))]
theorem repL_not (v : VB rows good k) : repL rows (good.map not) k = repL rows good k := by
  obtain ⟨R1, R2⟩ := rch_ok v
  exact ded_congr (fun s t hs ht => alB_not (fun _ h => h) v hs ht) (rchS rows k).1 [] R1.all (by simp)
theorem rowsM_not (v : VB rows good k) : rowsM rows (good.map not) k = rowsM rows good k := by
  obtain ⟨R1, R2⟩ := rch_ok v
  rw [rowsM, rowsM, repL_not v]
  refine List.map_congr_left fun q hq => List.map_congr_left fun a ha => ?_
  have hqR := ded_mem hq
  have ha : a < k := by simpa using ha
  have hx := idxA_congr (al := alB rows (good.map not) k) (al' := alB rows good k) (fun s t hs ht => alB_not (fun _ h => h) v hs ht) (R1.all _ (R2 q hqR a ha)) (P := repL rows good k) (fun x hx => R1.all x (ded_mem hx))
  rw [hx]
theorem VB_not (v : VB rows good k) : VB rows (good.map not) k := ⟨v.n1, v.n6, by simp [v.gl], v.k1, v.k3, v.rl, v.rg⟩
end
noncomputable def KQ : List Item := [.code l07_BrandTurned.r7, .code l07_BrandTurned.r8, .code l07_BrandTurned.r9, .code l07_BrandTurned.r10, .code l07_BrandTurned.r11, .code l07_BrandTurned.r12, .code l07_BrandTurned.r13, .code .ret]
theorem tur_loop {nv gv : AV} {good : List Bool} (hg : IsB gv good) (hn1 : nv.one = true) (hl : good.length ≤ 6) {o lo : Nat} (ho : o < lo) {r : Option Res} :
    ∀ (c i : Nat) (h : Nat → Option AObj) (nx0 : Nat) (g : AV), i + c = good.length → lo ≤ nx0 → h o = some (.cells [nv, g]) → Nl h g (bls ((good.take i).map not)) lo nx0 →
    (∀ h' nx' g', lo ≤ nx' → h' o = some (.cells [nv, g']) → Nl h' g' (bls (good.map not)) lo nx' → l07_BrandTurned.L0 (.fptr [nv, gv]) (.ptr o 0 2) (.int .i64 good.length) ⟨h', nx'⟩ KQ = r) →
    l07_BrandTurned.L0 (.fptr [nv, gv]) (.ptr o 0 2) (.int .i64 i) ⟨h, nx0⟩ KQ = r := by
  intro c
  induction c with
  | zero =>
    intro i h nx0 g h1 hlo ho' N hk
    have e : i = good.length := by omega
    subst e
    rw [List.take_length] at N
    exact hk h nx0 g hlo ho' N
  | succ c ih =>
    intro i h nx0 g h1 hlo ho' N hk
    have hi : i < good.length := by omega
    have hwi : IntKind.wrap .i64 ((i : Int) + 1) = (i : Int) + 1 := wrap_id (by omega) (by omega)
    have b1 := bls_head (bs := good) hi
    have hlb : (bls ((good.take i).map not)).length ≤ 6 := by simp; omega
    obtain ⟨v1, h2, n2, g1, g2, g3, g4, g5, g6, g7⟩ := N.app (nx := nx0 + 9) (by' := 1) (by omega) (by omega) (by simp only [room_dec, Bool.and_eq_true, decide_eq_true_eq]; omega) (.bool (!bnth good i))
    have e1 : bls ((good.take i).map not) ++ [.bool (!bnth good i)] = bls ((good.take (i + 1)).map not) := by
      have hgi : good[i]? = some (bnth good i) := by simp [bnth, hi, List.getD_eq_getElem?_getD]
      rw [List.take_add_one, hgi]
      simp only [Option.toList_some, List.map_append, List.map_cons, List.map_nil, bls]
    rw [e1] at g2
    have ho2 : h2 o = some (.cells [nv, g]) := by
      rw [g6 o (fun e => by
        rcases g5 o e with q | q
        · have := N.oid q; omega
        · omega), ho']
    have st := ih (i + 1) (upd h2 o (some (.cells [nv, v1]))) (nx0 + 12) v1 (by omega) (by omega) (by simp) (g2.fr (fun y y1 y2 _ => updNe (by omega)) (by omega)) hk
    simp only [Int.natCast_add, Int.cast_ofNat_Int] at st
    rw [l07_BrandTurned.L0_eq]
    simp [hg.len, hi, ho', hg.idx hi, b1, N.one, g1, ho2, (show v1.one = true from g2.one), hwi]
    exact st
theorem tur_runs {d : Nat} (a0 : AV) (h0 : DatV prog (d + 4) 37 a0) : ∃ m', denC prog ann 12 [a0] Mem.empty = some (.bool true, m') := by
  obtain ⟨s0, s1, q, bv, l, rfl, b0, b1, b2, hb, hlb, _⟩ := datV37 h0
  obtain ⟨rows, good, k, nv, gv, ps, hn, hg, v, hp⟩ := plan_spec b0 b1 b2 hb hlb
  have v' := VB_not v
  have n6 := v.n6
  have k3 := v.k3
  have hgl := v.gl
  have hr : ∀ i, i < rows.length → (cth rows i).length ≤ 1000 := fun i hi => by rw [v.rl i hi]; omega
  have hg' : IsB (.fsl false (good.map not).length (bls (good.map not))) (good.map not) := .inr ⟨false, rfl⟩
  have vt := v.to
  have vt' := v'.to
  have m1 := fun m => monoid_spec hn hg (by omega) (by omega) hr m
  have m2 := fun m => monoid_spec hn hg' (by omega) (by simp; omega) hr m
  have c1 := fun m => classes45_spec hn hg (by omega) (by omega) hr m
  have c2 := fun m => classes45_spec hn hg' (by omega) (by simp; omega) hr m
  have r1 := fun m => reset_spec hn hg (by omega) (by omega) hr m
  have r2 := fun m => reset_spec hn hg' (by omega) (by simp; omega) hr m
  have emb : madeB rows (good.map not) k = madeB rows good k := by rw [madeB, madeB, rowsM_not v]
  have erm := rowsM_not v
  rw [vt, if_pos rfl, v.k0] at m1 r1
  rw [vt', if_pos rfl, v.k0] at m2 r2
  rw [emb] at m2
  unfold clsRes at c1 c2
  rw [vt, if_pos rfl, v.k0] at c1
  rw [vt', if_pos rfl, v.k0, emb, erm] at c2
  refine ⟨Mem.empty, ?_⟩
  rw [l07_BrandTurned.call_eq _ _ (by simp [hb.closed])]
  have key : l07_BrandTurned.L0 (.fptr [nv, gv]) (.ptr 1 0 2) (.int .i64 (0 : Nat)) ⟨upd (upd Mem.empty.h 0 none) 1 (some (.cells [nv, .nils])), 2⟩ KQ = some (.bool true, Mem.empty) := by
    refine tur_loop (nv := nv) hg hn.one (by omega) (o := 1) (lo := 2) (by omega) good.length 0 _ 2 .nils (by omega) (by omega) (by simp) .nil ?_
    intro h' nx' g' hlo ho N
    obtain ⟨G, rfl, g1, g2, g3⟩ := N.sl (N.nn (by
      intro e
      have := congrArg List.length e
      simp only [bls_len, List.length_map, List.length_nil] at this
      have := v.n1
      omega))
    have hlm : (bls (good.map not)).length = good.length := by simp
    have hG1 : (1 == G) = false := beq_eq_false_iff_ne.2 (by omega)
    have tk : (bls (good.map not)).take good.length = bls (good.map not) := List.take_of_length_le (by simp)
    simp only [List.length_map] at m2 c2 r2 hg'
    cases e : madeB rows good k with
    | none =>
      rw [e] at m1 m2 c1 c2
      have s1 := fun m => same_refl (v := .nils) (v' := .nils) (l := []) (.inl ⟨rfl, rfl⟩) (.inl ⟨rfl, rfl⟩) (by simp) m
      have s2 := fun m => samel_refl (v := .nils) (v' := .nils) (l := []) (.inl ⟨rfl, rfl⟩) (.inl ⟨rfl, rfl⟩) (by simp) (by simp) m
      rw [l07_BrandTurned.L0_eq]
      cases er : rstW rows k with
      | none =>
        rw [er] at r1 r2
        simp [KQ, hg.len, ho, g1, hlm, tk, frz1, frzV, hG1, frzL, hn.one, hg.one, hn.closed, hg.closed, hn.cells, hg.cells, m1, m2, c1, c2, r1, r2, s1, s2, resP, lives_spec]
        done
      | some w =>
        rw [er] at r1 r2
        simp [KQ, hg.len, ho, g1, hlm, tk, frz1, frzV, hG1, frzL, hn.one, hg.one, hn.closed, hg.closed, hn.cells, hg.cells, m1, m2, c1, c2, r1, r2, s1, s2, resP, lives_spec]
        done
    | some S =>
      rw [e] at m1 m2 c1 c2
      have W := MW_of v e
      have wl := W.ok.le
      have wle := W.ok.len
      have cf := clsL_few (eqB (rowsM rows good k) S k true true) S.1.length
      have i1 := wdsV_is S
      have i2 := clsV_is S (clsM (rowsM rows good k) S k true true)
      have s1 := fun m => same_refl i1 i1 (by omega) m
      have s2 := fun m => samel_refl i2 i2 (by simp only [clsS, clsM, List.length_map]; omega) (fun x hx => by
        simp only [clsS, clsM, List.mem_map] at hx
        obtain ⟨c, hc, rfl⟩ := hx
        have := cf.2 c hc
        rw [List.length_map]; omega) m
      simp only [] at m1 m2 c1 c2
      generalize clsV S (clsM (rowsM rows good k) S k true true) = cv at *
      generalize wdsV S = wv at *
      rw [l07_BrandTurned.L0_eq]
      cases er : rstW rows k with
      | none =>
        rw [er] at r1 r2
        simp [KQ, hg.len, ho, g1, hlm, tk, frz1, frzV, hG1, frzL, hn.one, hg.one, hn.closed, hg.closed, hn.cells, hg.cells, i1.one, i1.closed, i2.one, i2.closed, m1, m2, c1, c2, r1, r2, s1, s2, resP, lives_spec]
        done
      | some w =>
        rw [er] at r1 r2
        simp [KQ, hg.len, ho, g1, hlm, tk, frz1, frzV, hG1, frzL, hn.one, hg.one, hn.closed, hg.closed, hn.cells, hg.cells, i1.one, i1.closed, i2.one, i2.closed, m1, m2, c1, c2, r1, r2, s1, s2, resP, lives_spec]
        done
  simp only [Int.ofNat_zero, Int.cast_ofNat_Int, KQ] at key
  simp [hb.one, hb.closed, hp, hn.one, hg.one, hn.closed, hg.closed, hn.cells, hg.cells]
  rw [key]
  rfl
end Go.Proofs.Ythnpflkpjimkfaa
