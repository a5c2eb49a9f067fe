/-
  THE SMALLEST FORM: the specification's numbers in memory. Conditions: none.
-/
import Derived.Test.YthnpflkpjimkfaaK03
import Derived.Test.YthnpflkpjimkfaaKAmH
set_option linter.all false
namespace Go.Proofs.Ythnpflkpjimkfaa
open Go.AM
open Go.Proofs.Try (prog)
set_option linter.all false
set_option maxRecDepth 100000
set_option maxHeartbeats 8000000
theorem encS_head {R : List Nat} {i q : Nat} (h : R[i]? = some q) : ((R.map encS).drop i).head? = some (.int .i64 (q : Int)) := by
  rw [List.head?_drop]
  simp [h, encS]
theorem mbV_head {n : Nat} {L : MB} {i : Nat} (h : i < L.length) : ((L.map fun r => AV.fsl false n (bls r)).drop i).head? = some (.fsl false n (bls (brw L i))) := by
  rw [List.head?_drop]
  simp [h, brw, List.getD_eq_getElem?_getD]
noncomputable def KT0 : List Item := [.code r07_Smallest.r16, .code r07_Smallest.r17, .code r07_Smallest.k4, .code r07_Smallest.r26, .code .ret]
noncomputable def KT2 : List Item := .code r07_Smallest.r13 :: .code r07_Smallest.i3 :: .inBlock 1 :: .code r07_Smallest.r6 :: .inLoop r07_Smallest.l0 :: .inBlock 0 :: KT0
theorem rs_k {x1 x2 : AV} {n : Nat} (n6 : n ≤ 6) {al : Nat → Nat → Bool} {L : MB} (hL : Wf n L) (hal : ∀ s t, s < n → t < n → mth L s t = al s t) {R F : List Nat} {N f i q : Nat} (hi : i < R.length) (hq : R[i]? = some q) (hqn : q < n) (hF : ∀ t ∈ F, t < n) (hfl : F.length ≤ 6) {Nb : List Int} (hNb : Nb.length = n) (hNf : N ≠ f) {r : Res} :
    ∀ (c j : Nat) (h : Nat → Option AObj) (nx0 : Nat) (w : Int), j + c = F.length → h N = some (.cells (ints (Nb.set q w))) → h f = some (.cells (F.map encS)) → N < nx0 → f < nx0 →
    (∀ h' nx', h' N = some (.cells (ints (Nb.set q (lastI (al q) (F.drop j) j w)))) → nx0 ≤ nx' → (∀ y, y ≠ N → h' y = h y) →
      r07_Smallest.L2 x1 x2 (.fsl false R.length (R.map encS)) (mbV n L) (.sl N 1 0 n n) (.sl f 1 0 F.length F.length) (.int .i64 i) (.int .i64 F.length) ⟨h', nx'⟩ KT2 = some r) →
    r07_Smallest.L2 x1 x2 (.fsl false R.length (R.map encS)) (mbV n L) (.sl N 1 0 n n) (.sl f 1 0 F.length F.length) (.int .i64 i) (.int .i64 j) ⟨h, nx0⟩ KT2 = some r := by
  intro c
  induction c with
  | zero =>
    intro j h nx0 w h1 hN hf hN0 hf0 hk
    have e : j = F.length := by omega
    subst e
    have hk := hk h nx0 (by rw [List.drop_of_length_le (by omega)]; exact hN) (Nat.le_refl _) (fun _ _ => rfl)
    exact hk
  | succ c ih =>
    intro j h nx0 w h1 hN hf hN0 hf0 hk
    have hj : j < F.length := by omega
    have hwj : IntKind.wrap .i64 ((j : Int) + 1) = (j : Int) + 1 := wrap_id (by omega) (by omega)
    have hd := List.drop_eq_getElem_cons hj
    rw [hd, lastI] at hk
    have ht := hF F[j] (List.getElem_mem _)
    have h2 := mbV_head (n := n) (i := q) (L := L) (by rw [hL.l]; exact hqn)
    have h3 := bls_head (bs := brw L q) (i := F[j]) (by rw [hL.r q hqn]; exact ht)
    have h4 : bnth (brw L q) F[j] = al q F[j] := hal q F[j] hqn ht
    rw [h4] at h3
    have hll : (Nb.set q w).length = n := by simp [hNb]
    cases e : al q F[j] with
    | true =>
      rw [e] at h3 hk
      have st := ih (j + 1) (upd h N (some (.cells (ints (Nb.set q j))))) (nx0 + 13) j (by omega) (by simp) (by rw [updNe hNf.symm]; exact hf) (by omega) (by omega) (fun h' nx' g1 g2 g3 => hk h' nx' (by simpa using g1) (by omega) (fun y hy => by rw [g3 y hy]; exact updNe hy))
      simp only [Int.natCast_add, Int.cast_ofNat_Int] at st
      rw [r07_Smallest.L2_eq]
      simp [hj, hi, encS_head hq, mbV, hL.l, hqn, h2, hf, encS, ht, h3, hN, hNb, hwj]
      simp only [mbV, encS, hL.l] at st
      exact st
    | false =>
      rw [e] at h3 hk
      have st := ih (j + 1) h (nx0 + 13) w (by omega) hN hf (by omega) (by omega) (fun h' nx' g1 g2 g3 => hk h' nx' (by simpa using g1) (by omega) g3)
      simp only [Int.natCast_add, Int.cast_ofNat_Int] at st
      rw [r07_Smallest.L2_eq]
      simp [hj, hi, encS_head hq, mbV, hL.l, hqn, h2, hf, encS, ht, h3, hwj]
      simp only [mbV, encS, hL.l] at st
      exact st
theorem nth_set {l : List Int} {i j : Nat} {x : Int} (h : i < l.length) : nth (l.set i x) j = if i = j then x else nth l j := by
  simp only [nth, List.getD_eq_getElem?_getD, List.getElem?_set]
  by_cases e : i = j
  · subst e; simp [h]
  · simp [e]
theorem idxA_last {al : Nat → Nat → Bool} {s : Nat} {P : List Nat} (hr : al s s = true) (c : ¬ P.any (al s) = true) : idxA al (P ++ [s]) s = P.length := by
  have hn : ¬ List.findIdx (al s) P < P.length := by
    rw [List.findIdx_lt_length]
    simpa using c
  rw [idxA, List.findIdx_append, if_neg hn]
  simp [hr]
theorem idxA_lt {al : Nat → Nat → Bool} {s : Nat} {P : List Nat} (c : P.any (al s) = true) : idxA al P s < P.length := by
  rw [idxA, List.findIdx_lt_length]
  simpa using c
theorem rs_o {x1 x2 : AV} {n k : Nat} {nxt : Nat → Nat → Nat} (n6 : n ≤ 6) {al : Nat → Nat → Bool} (Lk : Lik al nxt k n) {L : MB} (hL : Wf n L) (hal : ∀ s t, s < n → t < n → mth L s t = al s t) {R : List Nat} (hRn : R.Nodup) (hR : ∀ s ∈ R, s < n) {N f : Nat} (hNf : N ≠ f) {r : Res} :
    ∀ (c i : Nat) (h : Nat → Option AObj) (nx0 : Nat) (Na : List Int), i + c = R.length → Na.length = n → h N = some (.cells (ints Na)) → h f = some (.cells ((ded al (R.take i)).map encS)) → N < nx0 → f < nx0 → (∀ s ∈ R.take i, nth Na s = idxA al (ded al (R.take i)) s) →
    (∀ h' nx' Na', Na'.length = n → h' N = some (.cells (ints Na')) → h' f = some (.cells ((ded al R).map encS)) → (∀ s ∈ R, nth Na' s = idxA al (ded al R) s) → nx0 ≤ nx' → (∀ y, y ≠ N → y ≠ f → h' y = h y) →
      r07_Smallest.L0 x1 x2 (.fsl false R.length (R.map encS)) (mbV n L) (.sl N 1 0 n n) (.sl f 1 0 (ded al R).length (ded al R).length) (.int .i64 R.length) ⟨h', nx'⟩ KT0 = some r) →
    r07_Smallest.L0 x1 x2 (.fsl false R.length (R.map encS)) (mbV n L) (.sl N 1 0 n n) (.sl f 1 0 (ded al (R.take i)).length (ded al (R.take i)).length) (.int .i64 i) ⟨h, nx0⟩ KT0 = some r := by
  intro c
  have hR6 : R.length ≤ 6 := few6 n6 hRn hR
  induction c with
  | zero =>
    intro i h nx0 Na h1 hl hN hf hN0 hf0 hNa hk
    have e : i = R.length := by omega
    subst e
    rw [List.take_length] at *
    exact hk h nx0 Na hl hN hf hNa (Nat.le_refl _) (fun _ _ _ => rfl)
  | succ c ih =>
    intro i h nx0 Na h1 hl hN hf hN0 hf0 hNa hk
    have hi : i < R.length := by omega
    have hq := List.getElem?_eq_getElem hi
    have hqm : R[i] ∉ R.take i := by
      intro hm
      obtain ⟨j, hj, e⟩ := List.getElem_of_mem hm
      have hj' : j < i := by simp at hj; omega
      have pw := List.pairwise_iff_getElem.1 hRn j i (by omega) hi hj'
      simp at e
      exact pw e
    generalize R[i] = q at hq hqm
    have hqn : q < n := hR q (List.mem_of_getElem? hq)
    have hds := ded_take_succ (al := al) hq
    have htk : R.take (i + 1) = R.take i ++ [q] := by rw [List.take_add_one, hq]; rfl
    have IH := ih (i + 1)
    rw [hds] at IH
    have hTn : ∀ s ∈ R.take i, s < n := fun s hs => hR s (List.mem_of_mem_take hs)
    have hFn : ∀ t ∈ ded al (R.take i), t < n := fun t ht => hTn t (ded_mem ht)
    have hpw : (ded al (R.take i)).Pairwise (fun t u => al u t = false) := ded_pw _ [] (by simp)
    have hany := fun s hs => ded_any Lk (R.take i) hTn s hs
    have hF6 : (ded al (R.take i)).length ≤ 6 := by
      have := ded_len (al := al) (R.take i) []
      simp [List.length_take] at this
      have e : (ded al (R.take i)).length ≤ min i R.length := this
      omega
    have hwi : IntKind.wrap .i64 ((i : Int) + 1) = (i : Int) + 1 := wrap_id (by omega) (by omega)
    generalize ded al (R.take i) = F at *
    have hlast := lastI_eq Lk hqn (F := F) (j := 0) (v := -1) hpw hFn
    have hset : ∀ (Na' : List Int) (F' : List Nat), numS al q F = F' → Na'.length = n → (∀ j, j ≠ q → nth Na' j = nth Na j) → nth Na' q = (idxA al F' q : Nat) → ∀ s ∈ R.take (i + 1), nth Na' s = idxA al F' s := by
      intro Na' F' e1 e2 e3 e4 s hs
      rw [htk] at hs
      rcases List.mem_append.1 hs with hs | hs
      · obtain ⟨l, hl'⟩ := numS_pre (al := al) q F
        rw [e3 s (fun e => hqm (e ▸ hs)), hNa s hs, ← e1, hl', idxA_app (hany s hs)]
      · simp at hs; subst hs; exact e4
    have st := rs_k (x1 := x1) (x2 := x2) n6 hL hal (R := R) (F := F) (N := N) (f := f) (i := i) (q := q) hi hq hqn hFn hF6 hl hNf (r := r) F.length 0 (upd h N (some (.cells (ints (Na.set q (-1)))))) nx0 (-1) (by omega) (by simp) (by rw [updNe hNf.symm]; exact hf) hN0 hf0 (fun h' nx' g1 g2 g3 => by
      rw [List.drop_zero, hlast] at g1
      have gf : h' f = some (.cells (F.map encS)) := by rw [g3 f hNf.symm, updNe hNf.symm, hf]
      by_cases ca : F.any (al q) = true
      · rw [if_pos ca, Nat.zero_add] at g1
        have e1 : numS al q F = F := by rw [numS, if_pos ca]
        rw [e1] at IH
        have st2 := IH h' nx' (Na.set q (idxA al F q : Nat)) (by omega) (by simp [hl]) g1 gf (by omega) (by omega) (hset _ F e1 (by simp [hl]) (fun j hj => by rw [nth_set (by omega), if_neg (Ne.symm hj)]) (by rw [nth_set (by omega), if_pos rfl])) (fun h2 nx2 Na2 f1 f2 f3 f4 f5 f6 => hk h2 nx2 Na2 f1 f2 f3 f4 (by omega) (fun y y1 y2 => by rw [f6 y y1 y2, g3 y y1, updNe y1]))
        simp only [Int.natCast_add, Int.cast_ofNat_Int] at st2
        rw [r07_Smallest.L2_eq]
        simp [KT2, hi, encS_head hq, hqn, g1, hl, hwi, nth_set (show q < Na.length by omega), show ¬ ((idxA al F q : Nat) : Int) < 0 by omega]
        exact st2
      · rw [if_neg ca] at g1
        have e1 : numS al q F = F ++ [q] := by rw [numS, if_neg ca]
        rw [e1] at IH
        have hix := idxA_last (Lk.rf q hqn) ca
        have hfN : (f == N) = false := beq_eq_false_iff_ne.2 (Ne.symm hNf)
        have st2 := IH (upd (upd h' N (some (.cells (ints ((Na.set q (-1)).set q F.length))))) f (some (.cells ((F ++ [q]).map encS)))) nx' ((Na.set q (-1)).set q F.length) (by omega) (by simp [hl]) (by rw [updNe hNf]; simp) (by simp) (by omega) (by omega) (hset _ (F ++ [q]) e1 (by simp [hl]) (fun j hj => by rw [nth_set (by simp; omega), if_neg (Ne.symm hj), nth_set (by omega), if_neg (Ne.symm hj)]) (by rw [nth_set (by simp; omega), if_pos rfl, hix])) (fun h2 nx2 Na2 f1 f2 f3 f4 f5 f6 => hk h2 nx2 Na2 f1 f2 f3 f4 (by omega) (fun y y1 y2 => by rw [f6 y y1 y2, updNe y2, updNe y1, g3 y y1, updNe y1]))
        simp only [Int.natCast_add, Int.cast_ofNat_Int] at st2
        rw [r07_Smallest.L2_eq]
        simp [KT2, hi, encS_head hq, hqn, g1, gf, hl, hwi, hfN, nth_set (show q < Na.length by omega), encS, show F.length ≤ 4611686018427387903 by omega, show (F.length + 1) * 8 ≤ 70368744177664 by omega]
        simp [encS] at st2
        exact st2)
    simp only [Int.ofNat_zero, Int.cast_ofNat_Int] at st
    rw [r07_Smallest.L0_eq]
    simp [hi, encS_head hq, hqn, hN, hl]
    exact st
end Go.Proofs.Ythnpflkpjimkfaa

/-
  THE SMALLEST FORM: what the program returns. Conditions: none.
-/
namespace Go.Proofs.Ythnpflkpjimkfaa
open Go.AM
open Go.Proofs.Try (prog)
set_option linter.all false
set_option maxRecDepth 100000
set_option maxHeartbeats 8000000
theorem smallest_spec {nv gv : AV} {ps : List AV} {rows : List (List Int)} {good : List Bool} {k : Nat} (hn : IsRows nv ps rows) (hg : IsB gv good) (v : VB rows good k) (m : Mem) :
    denC prog ann 56 [.agg [nv, gv]] m = some (resV (alB rows good k) rows good k (bldN (alB rows good k) (nx rows) k (rows.length + 1) 0 [0]), m) := by
  have n1 := v.n1
  have n6 := v.n6
  have hgl := v.gl
  have nn : rows.length * rows.length ≤ 36 := Nat.mul_le_mul n6 n6
  obtain ⟨F1, F2⟩ := fixD_end v (f := 37) (by omega)
  rw [brand_smallest.call_eq _ _ (by simp [hn.closed, hg.closed])]
  have h0 : ∀ h : Nat → Option AObj, h 1 = some (.cells (List.replicate rows.length .nils)) → h 0 = some (.cells [.nils, .nils]) → brand_smallest.L0 (.fptr [nv, gv]) (.ptr 0 0 2) (.int .i64 rows.length) (.sptr [.sl 1 1 0 rows.length rows.length]) (.int .i64 rows.length) (.int .i64 0) ⟨h, 3⟩ K0 = some (resV (alB rows good k) rows good k (bldN (alB rows good k) (nx rows) k (rows.length + 1) 0 [0]), Mem.empty) := by
    intro h e1 e0
    have B0 : Bt h 1 [] ((List.range 0).map fun i => (List.range rows.length).map fun j => !(bnth good i == bnth good j)) rows.length rows.length := ⟨by simp [e1], rfl, by simp, by simp, by simp, by simp⟩
    refine sm_d (gv := gv) (nv := nv) (x2 := .ptr 0 0 2) hg hgl n6 rows.length 0 h 3 [] (by omega) B0 (by omega) (by simp) ?_
    intro h' nx' ids B hd hids hnx hfr
    refine sm_w (gv := gv) (x2 := .ptr 0 0 2) hn v 37 h' nx' _ D0_mkd (by omega) B ?_
    intro h2 nx2 B2 hnx2 hfr2
    have hz : h2 0 = some (.cells [.nils, .nils]) := by
      have h00 : h' 0 = some (.cells [.nils, .nils]) := by rw [hfr 0 (by omega) (by omega) (by simp), e0]
      rw [hfr2 0 (fun e => by
        obtain ⟨i, hi, e⟩ := List.getElem_of_mem e
        have h3 : i < (D0 good rows.length).length := by rw [← B.l]; exact hi
        have := B.r i h3
        have e' : rid ids i = 0 := by simp [rid, List.getD_eq_getElem?_getD, hi, e]
        rw [e', h00] at this
        have hl := B.rl i h3
        have q := Option.some.inj this
        injection q with q
        have : (bls (brw (D0 good rows.length) i))[0]? = some .nils := by rw [← q]; rfl
        simp [bls] at this), h00]
    have hids2 : ∀ y ∈ ids, y < nx2 := fun y hy => by have := hids y hy; omega
    have fr : ∀ y, y < nx2 → (upd (upd (upd h2 nx2 (some (AObj.cells [AV.nils, AV.nils]))) (nx2 + 1) (some (AObj.cells [AV.int IntKind.i64 0]))) (nx2 + 1 + 1) (some (AObj.cells [AV.sl (nx2 + 1) 1 0 1 1]))) y = h2 y := fun y hy => by rw [updNe (by omega), updNe (by omega), updNe (by omega)]
    have st := sm_o (gv := gv) hn hg v (al := alB rows good k) (D := fixD rows k rows.length 37 (D0 good rows.length)) F1.l F2 (fun s _ => alB_refl s) (d := 1) (o := nx2) (z0 := 0) (ids := ids) (b := nx2 + 1 + 1) (S := nx2 + 1) (lo := nx2 + 3) (by omega) (fun y hy => by have := hids2 y hy; omega) (by omega) (by omega) (by omega) (by omega) ⟨by omega, fun e => by have := hids2 _ e; omega⟩ ⟨by omega, fun e => by have := hids2 _ e; omega⟩ ⟨by omega, fun e => by have := hids2 _ e; omega⟩ ⟨by omega, fun e => by
        obtain ⟨i, hi, e⟩ := List.getElem_of_mem e
        have h3 : i < (fixD rows k rows.length 37 (D0 good rows.length)).length := by rw [← B2.l]; exact hi
        have := B2.r i h3
        have e' : rid ids i = 0 := by simp [rid, List.getD_eq_getElem?_getD, hi, e]
        rw [e', hz] at this
        have hl := B2.rl i h3
        have q := Option.some.inj this
        injection q with q
        have : (bls (brw (fixD rows k rows.length 37 (D0 good rows.length)) i))[0]? = some .nils := by rw [← q]; rfl
        simp [bls] at this⟩ (by omega) (by omega) (by omega) (rows.length + 1) 0 _ (nx2 + 1 + 1 + 1) [0] .nils .nils (B2.fr (fr 1 (by omega)) (fun y hy => fr y (hids2 y hy))) ⟨by simp, by rw [updNe (by omega)]; simp [encS], by omega⟩ (by simp) (by intro x hx; simp at hx; omega) (by simp) (by omega) (by simp) (by omega) ⟨by rw [updNe (by omega), updNe (by omega)]; simp, by rw [fr 0 (by omega)]; exact hz, .nil, .nil, by simp [objId]⟩ (by simp)
    simp only [Int.ofNat_zero, Int.cast_ofNat_Int, K12] at st
    rw [brand_smallest.L4_eq]
    simp [K4]
    exact st
  have h1 := h0 (upd (upd (upd (upd Mem.empty.h 0 (some (AObj.cells [AV.nils, AV.nils]))) 1 (some (AObj.cells (List.replicate rows.length AV.nils)))) 2 (some (AObj.cells [AV.sl 1 1 0 rows.length rows.length]))) 2 none) (by simp) (by simp)
  simp [K0, K4] at h1
  simp [hn.one, hg.one, hn.closed, hg.closed, hn.len, show rows.length ≤ 4611686018427387904 by omega, show rows.length * 24 ≤ 70368744177664 by omega]
  rw [h1]
  rfl
end Go.Proofs.Ythnpflkpjimkfaa

/-
  THE SMALLEST FORM: what the specification returns. Conditions: none.
-/
namespace Go.Proofs.Ythnpflkpjimkfaa
open Go.AM
open Go.Proofs.Try (prog)
set_option linter.all false
set_option maxRecDepth 100000
set_option maxHeartbeats 8000000
noncomputable def KU4 : List Item := [.code r07_Smallest.r26, .code .ret]
noncomputable def KU6 : List Item := .code r07_Smallest.r25 :: .inBlock 5 :: .code r07_Smallest.r19 :: .inLoop r07_Smallest.l4 :: .inBlock 4 :: KU4
theorem rs_r {nv gv : AV} {ps : List AV} {rows : List (List Int)} {good : List Bool} {k : Nat} (hn : IsRows nv ps rows) (v : VB rows good k) {al : Nat → Nat → Bool} {R F : List Nat} (hRc : ∀ s ∈ R, ∀ a, a < k → nx rows s a ∈ R) {Na : List Int} (hNl : Na.length = rows.length) (hNa : ∀ s ∈ R, nth Na s = idxA al F s) {x2 x10 : AV} {N f kk q : Nat} (hkk : kk < F.length) (hF6 : F.length ≤ 6) (hq : F[kk]? = some q) (hqn : q < rows.length) (hqR : q ∈ R) {Rr : Nat} (h1N : Rr ≠ N) (h1f : Rr ≠ f) {r : Res} :
    ∀ (c a : Nat) (h : Nat → Option AObj) (nx0 : Nat), a + c = k → h N = some (.cells (ints Na)) → h f = some (.cells (F.map encS)) → h Rr = some (.cells (rowV al rows F q a)) → Rr < nx0 →
    (∀ h' nx', h' Rr = some (.cells (rowV al rows F q k)) → nx0 ≤ nx' → (∀ y, y ≠ Rr → h' y = h y) →
      r07_Smallest.L6 (.fptr [nv, gv]) x2 (.sl N 1 0 rows.length rows.length) (.sl f 1 0 F.length F.length) x10 (.int .i64 kk) (.sl Rr 1 0 k k) (.int .i64 k) ⟨h', nx'⟩ KU6 = some r) →
    r07_Smallest.L6 (.fptr [nv, gv]) x2 (.sl N 1 0 rows.length rows.length) (.sl f 1 0 F.length F.length) x10 (.int .i64 kk) (.sl Rr 1 0 a a) (.int .i64 a) ⟨h, nx0⟩ KU6 = some r := by
  intro c
  have n6 := v.n6
  have k3 := v.k3
  have i0 := hn.idx (i := 0) v.n1 .i64
  have j0 := hn.head (i := 0) v.n1
  have iw0 := hn.row 0 v.n1
  have r0 := v.rl 0 v.n1
  simp only [Int.ofNat_zero, Int.cast_ofNat_Int, List.drop_zero] at i0 j0
  have hxe := (List.getElem?_eq_some_iff.1 hq).2
  induction c with
  | zero =>
    intro a h nx0 h1 hN hf hR hR0 hk
    have e : a = k := by omega
    subst e
    exact hk h nx0 hR (Nat.le_refl _) (fun _ _ => rfl)
  | succ c ih =>
    intro a h nx0 h1 hN hf hR hR0 hk
    have ha : a < k := by omega
    have hwa : IntKind.wrap .i64 ((a : Int) + 1) = (a : Int) + 1 := wrap_id (by omega) (by omega)
    obtain ⟨c1, c2⟩ := nx_lt v hqn ha
    have b1 := v.rl q hqn
    have iw1 := hn.row q hqn
    have d1 := iw1.idx (i := a) (by omega) .i64
    have e1 := ints_head (l := cth rows q) (i := a) (by omega)
    rw [c2] at e1
    have hval := hNa (nx rows q a) (hRc q hqR a ha)
    have hg : Na[nx rows q a]'(by omega) = ((idxA al F (nx rows q a) : Nat) : Int) := by rw [← hval]; exact nth_get (by omega)
    have hlen : (rowV al rows F q a).length = a := by simp [rowV]
    have hlen1 : (rowV al rows F q (a + 1)).length = a + 1 := by simp [rowV]
    have erow : rowV al rows F q a ++ [.int .i64 (idxA al F (nx rows q a) : Nat)] = rowV al rows F q (a + 1) := by simp [rowV, List.range_succ]
    have st := ih (a + 1) (upd h Rr (some (.cells (rowV al rows F q (a + 1))))) (nx0 + 18) (by omega) (by rw [updNe h1N.symm]; exact hN) (by rw [updNe h1f.symm]; exact hf) (by simp) (by omega) (fun h' nx' g1 g2 g3 => hk h' nx' g1 (by omega) (fun y hy => by rw [g3 y hy, updNe hy]))
    simp only [Int.natCast_add, Int.cast_ofNat_Int] at st
    rw [r07_Smallest.L6_eq]
    simp [ha, i0, j0, iw0.len, r0, hkk, hf, hxe, encS, hn.idx hqn, hn.head hqn, d1, e1, c1, hN, hNl, hval, hR, hlen, show a ≤ 4611686018427387903 by omega, show (a + 1) * 8 ≤ 70368744177664 by omega, erow, hlen1, hwa, st]
    done
theorem frz_122_126 (s : St) : frz1 s 3122126 = bif ap (objId (s.get 122)) (objId (s.get 126)) then some s else none := by rw [← ap_eq]; rfl
theorem frz_124 (s : St) : frz1 s 2000124 = bif nsl (s.get 124) then some s else none := rfl
theorem frz_122_132 (s : St) : frz1 s 3122132 = bif ap (objId (s.get 122)) (objId (s.get 132)) then some s else none := by rw [← ap_eq]; rfl
theorem rs_w {nv gv : AV} {ps : List AV} {rows : List (List Int)} {good : List Bool} {k : Nat} (hn : IsRows nv ps rows) (hg : IsB gv good) (v : VB rows good k) {al : Nat → Nat → Bool} {R F : List Nat} (hRc : ∀ s ∈ R, ∀ a, a < k → nx rows s a ∈ R) {Na : List Int} (hNl : Na.length = rows.length) (hNa : ∀ s ∈ R, nth Na s = idxA al F s) (hF6 : F.length ≤ 6) (hFR : ∀ s ∈ F, s ∈ R ∧ s < rows.length) (hpos : 0 < F.length)
    {N f o z0 lo : Nat} (hNlo : N < lo) (hflo : f < lo) (ho : o < lo) (hz : z0 < lo) (hoN : o ≠ N) (hof : o ≠ f) (hoz : o ≠ z0) :
    ∀ (c kk : Nat) (h : Nat → Option AObj) (nx0 : Nat) (a g : AV), kk + c = F.length → h N = some (.cells (ints Na)) → h f = some (.cells (F.map encS)) → lo ≤ nx0 → Ox h o z0 a g (outR al rows k F kk) (outG good F kk) lo nx0 →
    r07_Smallest.L4 (.fptr [nv, gv]) (.ptr z0 0 2) (.sl N 1 0 rows.length rows.length) (.sl f 1 0 F.length F.length) (.ptr o 0 2) (.int .i64 kk) ⟨h, nx0⟩ KU4 = some (resV al rows good k F, Mem.empty) := by
  intro c
  have n6 := v.n6
  have k3 := v.k3
  have i0 := hn.idx (i := 0) v.n1 .i64
  have j0 := hn.head (i := 0) v.n1
  have iw0 := hn.row 0 v.n1
  have r0 := v.rl 0 v.n1
  simp only [Int.ofNat_zero, Int.cast_ofNat_Int, List.drop_zero] at i0 j0
  induction c with
  | zero =>
    intro kk h nx0 a g h1 hN hf hlo O
    have e : kk = F.length := by omega
    subst e
    have e1 : F.take F.length = F := List.take_length
    have hne : F ≠ [] := by intro e; rw [e] at hpos; simp at hpos
    have na : Nl (upd h z0 (some (AObj.cells [a, g]))) a (outR al rows k F F.length) lo nx0 := O.na.fr (fun y y1 _ _ => updNe (by omega)) (Nat.le_refl _)
    have ng : Nl (upd h z0 (some (AObj.cells [a, g]))) g (outG good F F.length) lo nx0 := O.ng.fr (fun y y1 _ _ => updNe (by omega)) (Nat.le_refl _)
    have da := na.deep 4 (fun x hx => by
      simp only [outR, List.mem_map] at hx
      obtain ⟨q, _, rfl⟩ := hx
      simp [AM.deep, rowF, rowV_closed]) (na.nn (by simp [outR, hne]))
    have dg := ng.deep 4 (fun x hx => by
      simp only [outG, List.mem_map] at hx
      obtain ⟨q, _, rfl⟩ := hx
      simp [AM.deep]) (ng.nn (by simp [outG, hne]))
    rw [r07_Smallest.L4_eq]
    simp [O.o, O.z, O.na.one, O.ng.one, KU4]
    simp [da, dg, resV, outR, outG]
    done
  | succ c ih =>
    intro kk h nx0 a g h1 hN hf hlo O
    have hkk : kk < F.length := by omega
    have hq := List.getElem?_eq_getElem hkk
    generalize F[kk] = q at hq
    obtain ⟨hqR, hqn⟩ := hFR q (List.mem_of_getElem? hq)
    have htk1 : F.take (kk + 1) = F.take kk ++ [q] := by rw [List.take_add_one, hq]; rfl
    have eR : outR al rows k F kk ++ [rowF al rows k F q] = outR al rows k F (kk + 1) := by
      rw [outR, outR, htk1, List.map_append]; rfl
    have eG : outG good F kk ++ [.bool (bnth good q)] = outG good F (kk + 1) := by
      rw [outG, outG, htk1, List.map_append]; rfl
    have oa := fun y e => (O.na.oid (y := y) e)
    have og := fun y e => (O.ng.oid (y := y) e)
    have st := rs_r (gv := gv) (x2 := .ptr z0 0 2) (x10 := .ptr o 0 2) (kk := kk) (q := q) (N := N) (f := f) hn v hRc hNl hNa hkk hF6 hq hqn hqR (Rr := nx0) (by omega) (by omega) (r := (resV al rows good k F, Mem.empty)) k 0 (upd h nx0 (some (.cells []))) (nx0 + 1) (by omega) (by rw [updNe (by omega)]; exact hN) (by rw [updNe (by omega)]; exact hf) (by simp [rowV]) (by omega) (fun h' nx' w1 hnx' hfr0 => by
      have hfr : ∀ y, y ≠ nx0 → h' y = h y := fun y hy => by rw [hfr0 y hy, updNe hy]
      have rl : (rowV al rows F q k).length = k := by simp [rowV]
      have na1 : Nl (upd h' nx0 none) a (outR al rows k F kk) lo nx0 := O.na.fr (fun y y1 y2 _ => by rw [updNe (by omega), hfr y (by omega)]) (Nat.le_refl _)
      have lR : (outR al rows k F kk).length ≤ 6 := by simp [outR]; omega
      have lG : (outG good F kk).length ≤ 6 := by simp [outG]; omega
      obtain ⟨v1, h2, n2, g1, g2, g3, g4, g5, g6, g7⟩ := na1.app (nx := nx' + 4) (by' := 24) (by omega) (by omega) (by simp; omega) (rowF al rows k F q)
      have hv1 : ∀ y, objId v1 = some y → lo ≤ y ∧ (y < nx0 ∨ y = nx' + 4) := fun y e => by
        rcases g5 y e with q | q
        · have := oa y q; omega
        · omega
      have ng1 : Nl h2 g (outG good F kk) lo nx0 := O.ng.fr (fun y y1 y2 ye => by
        rw [g6 y (fun e => by
          rcases g5 y e with q | q
          · exact O.dj y q ye
          · omega), updNe (by omega), hfr y (by omega)]) (Nat.le_refl _)
      obtain ⟨v2, h3, n3, u1, u2, u3, u4, u5, u6, u7⟩ := ng1.app (nx := nx' + 16) (by' := 1) (by omega) (by omega) (by simp; omega) (.bool (bnth good q))
      have hv2 : ∀ y, objId v2 = some y → lo ≤ y ∧ (objId g = some y ∨ y = nx' + 16) := fun y e => by
        rcases u5 y e with q | q
        · have := og y q; exact ⟨this.1, .inl q⟩
        · exact ⟨by omega, .inr q⟩
      have low : ∀ y, y < lo → h3 y = h y := fun y hy => by
        rw [u6 y (fun e => by have := hv2 y e; omega), g6 y (fun e => by have := hv1 y e; omega), updNe (by omega), hfr y (by omega)]
      have lo2 : ∀ y, y < lo → h2 y = h y := fun y hy => by
        rw [g6 y (fun e => by have := hv1 y e; omega), updNe (by omega), hfr y (by omega)]
      have ho' : h' o = some (.cells [a, g]) := by rw [hfr o (by omega)]; exact O.o
      have ho2 : h2 o = some (.cells [a, g]) := by rw [lo2 o ho]; exact O.o
      have ho3 : h3 o = some (.cells [a, g]) := by rw [low o ho]; exact O.o
      have hf2 : h2 f = some (.cells (F.map encS)) := by rw [lo2 f hflo]; exact hf
      have a1 := ap_lt (z := o) (fun y e => (oa y e).1) ho
      have a3 := ap_lt (z := f) (fun y e => (oa y e).1) hflo
      have bq := bls_head (bs := good) (i := q) (by rw [v.gl]; exact hqn)
      have hwk : IntKind.wrap .i64 ((kk : Int) + 1) = (kk : Int) + 1 := wrap_id (by omega) (by omega)
      have fin4 : ∀ y, y < lo → y ≠ o → (upd h3 o (some (.cells [v1, v2]))) y = h y := fun y y1 y2 => by rw [updNe y2, low y y1]
      have st3 := ih (kk + 1) (upd h3 o (some (.cells [v1, v2]))) (nx' + 21) v1 v2 (by omega) (by rw [fin4 N hNlo hoN.symm]; exact hN) (by rw [fin4 f hflo hof.symm]; exact hf) (by omega)
        ⟨by simp, by rw [fin4 z0 hz hoz.symm]; exact O.z,
          by
            rw [← eR]
            exact g2.fr (fun y y1 y2 ye => by
              rw [updNe (by omega), u6 y (fun e => by
                rcases (hv2 y e).2 with q | q
                · rcases g5 y ye with w | w
                  · exact O.dj y w q
                  · have := og y q; omega
                · have := (hv1 y ye).2; omega)]) (by omega),
          by
            rw [← eG]
            exact u2.fr (fun y y1 y2 ye => by rw [updNe (by omega)]) (by omega),
          fun y e1 e2 => by
            rcases (hv2 y e2).2 with q | q
            · rcases g5 y e1 with w | w
              · exact O.dj y w q
              · have := og y q; omega
            · have := (hv1 y e1).2; omega⟩
      simp only [Int.natCast_add, Int.cast_ofNat_Int] at st3
      have hoR : (o == nx0) = false := beq_eq_false_iff_ne.2 (by omega)
      have rtk : (rowV al rows F q k).take k = rowV al rows F q k := List.take_of_length_le (by omega)
      have hxe := (List.getElem?_eq_some_iff.1 hq).2
      simp only [rowF] at g1
      rw [r07_Smallest.L6_eq]
      simp [KU6, i0, j0, iw0.len, r0, w1, rowV_closed, rl, rtk, hoR, ho', ho2, ho3, g1, O.na.one, O.ng.one, hf2, hkk, hxe, u1, (show v1.one = true from g2.one), (show v2.one = true from u2.one), frz_122_126, frz_124, frz_122_132, nsl, a1, a3, hwk, st3, encS, hg.idx (i := q) (by rw [v.gl]; exact hqn), bq, frzL]
      done)
    simp only [Int.ofNat_zero, Int.cast_ofNat_Int, KU6] at st
    rw [r07_Smallest.L4_eq]
    simp [hkk]
    exact st
theorem rsmallest_spec {nv gv : AV} {ps : List AV} {rows : List (List Int)} {good : List Bool} {k : Nat} (hn : IsRows nv ps rows) (hg : IsB gv good) (v : VB rows good k) (m : Mem) :
    denC prog ann 29 [.agg [nv, gv]] m = some (resV (alB rows good k) rows good k (repL rows good k), m) := by
  have n1 := v.n1
  have n6 := v.n6
  have h1 := fun m => reached_spec hn hg v m
  have h2 := fun m => alike_spec hn hg v m
  obtain ⟨L1, L2⟩ := lkR_end v
  obtain ⟨R1, R2⟩ := rch_ok v
  have R6 := few6 n6 R1.nd R1.all
  have hF6 : (repL rows good k).length ≤ 6 := by
    have := ded_len (al := alB rows good k) (rchS rows k).1 []
    have e : (repL rows good k).length ≤ 0 + (rchS rows k).1.length := this
    omega
  have hFR : ∀ s ∈ repL rows good k, s ∈ (rchS rows k).1 ∧ s < rows.length := fun s hs => ⟨ded_mem hs, R1.all s (ded_mem hs)⟩
  have hpos : 0 < (repL rows good k).length := by
    have h0 : 0 ∈ (rchS rows k).1 := by
      have hp : ∀ (f i : Nat) (S : List Nat × List (List UInt8)), 0 ∈ S.1 → 0 ∈ (bfsA (nx rows) extL k f i S).1 := by
        intro f
        induction f with
        | zero => intro i S h; exact h
        | succ f ih =>
          intro i S h
          rw [bfsA]
          split
          · rename_i x w _ _
            obtain ⟨p, _, e1, _⟩ := bIn_pre (nx rows) extL x w k 0 S
            exact ih _ _ (by rw [e1]; exact List.mem_append_left _ h)
          · exact h
      exact hp _ _ _ (by simp)
    have := ded_any (lik_alB v) (rchS rows k).1 R1.all 0 h0
    obtain ⟨u, hu, _⟩ := List.any_eq_true.1 this
    exact List.length_pos_of_mem hu
  have st := rs_o (x1 := .fptr [nv, gv]) (x2 := .ptr 0 0 2) n6 (lik_alB v) L1 L2 R1.nd R1.all (N := 1) (f := 2) (by omega) (r := (resV (alB rows good k) rows good k (repL rows good k), Mem.empty)) (rchS rows k).1.length 0 (upd (upd (upd Mem.empty.h 0 (some (AObj.cells [AV.nils, AV.nils]))) 1 (some (AObj.cells (List.replicate rows.length (AV.int IntKind.i64 0))))) 2 (some (.cells []))) 3 (List.replicate rows.length 0) (by omega) (by simp) (by simp [ints]) (by simp [ded]) (by omega) (by omega) (by simp) (fun h' nx' Na' g1 g2 g3 g4 g5 g6 => by
    have hz : h' 0 = some (.cells [.nils, .nils]) := by rw [g6 0 (by omega) (by omega)]; simp
    have st2 := rs_w (gv := gv) hn hg v (al := alB rows good k) (R := (rchS rows k).1) (F := repL rows good k) R2 (Na := Na') g1 g4 hF6 hFR hpos (N := 1) (f := 2) (o := nx') (z0 := 0) (lo := nx' + 1) (by omega) (by omega) (by omega) (by omega) (by omega) (by omega) (by omega) (repL rows good k).length 0 (upd h' nx' (some (.cells [.nils, .nils]))) (nx' + 1) .nils .nils (by omega) (by rw [updNe (by omega)]; exact g2) (by rw [updNe (by omega)]; exact g3) (by omega) ⟨by simp, by rw [updNe (by omega)]; exact hz, .nil, .nil, by simp [objId]⟩
    simp only [Int.ofNat_zero, Int.cast_ofNat_Int, KU4] at st2
    rw [r07_Smallest.L0_eq]
    simp [KT0]
    exact st2)
  rw [r07_Smallest.call_eq _ _ (by simp [hn.closed, hg.closed])]
  have e0 : ded (alB rows good k) ((rchS rows k).1.take 0) = [] := rfl
  rw [e0] at st
  simp only [Int.ofNat_zero, Int.cast_ofNat_Int, KT0, List.length_nil] at st
  simp [hn.one, hg.one, hn.closed, hg.closed, hn.len, h1, h2, rchV, show rows.length ≤ 4611686018427387904 by omega, show rows.length * 8 ≤ 70368744177664 by omega]
  rw [st]
  rfl
end Go.Proofs.Ythnpflkpjimkfaa

/-
  THE SAME BRAND: the test answers yes for the same; the smallest form is a brand. Conditions: none.
-/
namespace Go.Proofs.Ythnpflkpjimkfaa
open Go.AM
open Go.Proofs.Try (prog)
set_option linter.all false
set_option maxRecDepth 100000
set_option maxHeartbeats 8000000
noncomputable def rowsM (rows : List (List Int)) (good : List Bool) (k : Nat) : List (List Int) := (repL rows good k).map fun q => (List.range k).map fun a => ((idxA (alB rows good k) (repL rows good k) (nx rows q a) : Nat) : Int)
noncomputable def goodM (rows : List (List Int)) (good : List Bool) (k : Nat) : List Bool := (repL rows good k).map (bnth good)
noncomputable def psM (rows : List (List Int)) (good : List Bool) (k : Nat) : List AV := (repL rows good k).map (rowF (alB rows good k) rows k (repL rows good k))
noncomputable def nvM (rows : List (List Int)) (good : List Bool) (k : Nat) : AV := .fsl false (repL rows good k).length (psM rows good k)
noncomputable def gvM (rows : List (List Int)) (good : List Bool) (k : Nat) : AV := .fsl false (repL rows good k).length (bls (goodM rows good k))
theorem resV_eq (rows : List (List Int)) (good : List Bool) (k : Nat) : resV (alB rows good k) rows good k (repL rows good k) = .agg [nvM rows good k, gvM rows good k] := by
  simp [resV, nvM, gvM, psM, goodM, bls]
theorem isB_M (rows : List (List Int)) (good : List Bool) (k : Nat) : IsB (gvM rows good k) (goodM rows good k) := .inr ⟨false, by simp [gvM, goodM]⟩
theorem isRows_M (rows : List (List Int)) (good : List Bool) (k : Nat) : IsRows (nvM rows good k) (psM rows good k) (rowsM rows good k) := by
  refine ⟨by simp [psM, rowsM], fun i hi => ?_, .inr ⟨false, by simp [nvM, rowsM]⟩⟩
  have hi' : i < (repL rows good k).length := by simpa [rowsM] using hi
  have e1 : pth (psM rows good k) i = rowF (alB rows good k) rows k (repL rows good k) (repL rows good k)[i] := by simp [pth, psM, hi', List.getD_eq_getElem?_getD]
  have e2 : cth (rowsM rows good k) i = (List.range k).map fun a => ((idxA (alB rows good k) (repL rows good k) (nx rows (repL rows good k)[i] a) : Nat) : Int) := by simp [cth, rowsM, hi', List.getD_eq_getElem?_getD]
  rw [e1, e2]
  exact .inr ⟨false, by simp [rowF, rowV, ints]⟩
theorem rowsM_len (rows : List (List Int)) (good : List Bool) (k : Nat) : (rowsM rows good k).length = (repL rows good k).length := by simp [rowsM]
theorem repL_few {rows : List (List Int)} {good : List Bool} {k : Nat} (v : VB rows good k) : (repL rows good k).length ≤ rows.length ∧ 0 < (repL rows good k).length ∧ 0 ∈ (rchS rows k).1 := by
  obtain ⟨R1, R2⟩ := rch_ok v
  have hle : (repL rows good k).length ≤ rows.length := by
    have := ded_len (al := alB rows good k) (rchS rows k).1 []
    have e : (repL rows good k).length ≤ 0 + (rchS rows k).1.length := this
    have := nodup_sub R1.nd (L := List.range rows.length) fun x hx => List.mem_range.2 (R1.all x hx)
    simp at this
    omega
  have h0 : 0 ∈ (rchS rows k).1 := by
    have hp : ∀ (f i : Nat) (S : List Nat × List (List UInt8)), 0 ∈ S.1 → 0 ∈ (bfsA (nx rows) extL k f i S).1 := by
      intro f
      induction f with
      | zero => intro i S h; exact h
      | succ f ih =>
        intro i S h
        rw [bfsA]
        split
        · rename_i x w _ _
          obtain ⟨p, _, e1, _⟩ := bIn_pre (nx rows) extL x w k 0 S
          exact ih _ _ (by rw [e1]; exact List.mem_append_left _ h)
        · exact h
    exact hp _ _ _ (by simp)
  have := ded_any (lik_alB v) (rchS rows k).1 R1.all 0 h0
  obtain ⟨u, hu, _⟩ := List.any_eq_true.1 this
  exact ⟨hle, List.length_pos_of_mem hu, h0⟩
theorem VB_M {rows : List (List Int)} {good : List Bool} {k : Nat} (v : VB rows good k) : VB (rowsM rows good k) (goodM rows good k) k := by
  obtain ⟨h1, h2, h3⟩ := repL_few v
  obtain ⟨R1, R2⟩ := rch_ok v
  have n6 := v.n6
  have row : ∀ i (hi : i < (repL rows good k).length), cth (rowsM rows good k) i = (List.range k).map fun a => ((idxA (alB rows good k) (repL rows good k) (nx rows (repL rows good k)[i] a) : Nat) : Int) := fun i hi => by simp [cth, rowsM, hi, List.getD_eq_getElem?_getD]
  refine ⟨by rw [rowsM_len]; omega, by rw [rowsM_len]; omega, by simp [goodM, rowsM], v.k1, v.k3, fun i hi => ?_, fun i j hi hj => ?_⟩
  · rw [rowsM_len] at hi
    rw [row i hi]; simp
  · rw [rowsM_len] at hi
    rw [row i hi, rowsM_len]
    have hm : (repL rows good k)[i] ∈ (rchS rows k).1 := ded_mem (List.getElem_mem hi)
    have := idxA_lt (ded_any (lik_alB v) (rchS rows k).1 R1.all _ (R2 _ hm j hj))
    have e : nth ((List.range k).map fun a => ((idxA (alB rows good k) (repL rows good k) (nx rows (repL rows good k)[i] a) : Nat) : Int)) j = ((idxA (alB rows good k) (repL rows good k) (nx rows (repL rows good k)[i] j) : Nat) : Int) := by simp [nth, hj, List.getD_eq_getElem?_getD]
    rw [e]
    have this : idxA (alB rows good k) (repL rows good k) (nx rows (repL rows good k)[i] j) < (repL rows good k).length := this
    omega
end Go.Proofs.Ythnpflkpjimkfaa

/-
  BODIES OF FUNCTIONS OF THE PROGRAM AS SMALL OPERATIONS (written by gen.py; checked by the kernel against the program). Conditions: none.
-/
namespace Go.Proofs.Ythnpflkpjimkfaa
open Go.AM
open Go.Proofs.Try (prog)
set_option maxRecDepth 100000
set_option linter.all false
end Go.Proofs.Ythnpflkpjimkfaa

/-
  WHAT WORDS DO: moves of states, as keys. Conditions: none.
-/
namespace Go.Proofs.Ythnpflkpjimkfaa
open Go.AM
open Go.Proofs.Try (prog)
set_option linter.all false
set_option maxRecDepth 100000
set_option maxHeartbeats 8000000
theorem IsRows.deep {v : AV} {ps : List AV} {rows : List (List Int)} (h : IsRows v ps rows) (hp : Nat → Option AObj) (d : Nat) : AM.deep hp (d + 1) v = some v := by rcases h.val with ⟨rfl, _⟩ | ⟨_, rfl⟩ <;> rfl
def mvF (n : Nat) (f : Nat → Nat) (c : Nat) : List Nat := (List.range 6).map fun s => if s < c then f s else 0
def mv6 (rows : List (List Int)) (w : List UInt8) : List Nat := mvF rows.length (fun s => goL rows w s) rows.length
@[simp] theorem mv6_len (rows : List (List Int)) (w : List UInt8) : (mv6 rows w).length = 6 := by simp [mv6, mvF]
def nxM (rows : List (List Int)) (t : List Nat) (a : Nat) : List Nat := mvF rows.length (fun s => nx rows (t.getD s 0) a) rows.length
def encM (t : List Nat) : AV := .agg (t.map fun x => .int .i64 (x : Nat))
@[simp] theorem mvF_len (n : Nat) (f : Nat → Nat) (c : Nat) : (mvF n f c).length = 6 := by simp [mvF]
theorem mvF_at {n : Nat} {f : Nat → Nat} {c s : Nat} (h : s < 6) (hc : s < c) : (mvF n f c).getD s 0 = f s := by
  simp [mvF, List.getD_eq_getElem?_getD, h, hc]
theorem goL_snoc (rows : List (List Int)) (c : UInt8) : ∀ (w : List UInt8) (s : Nat), goL rows (w ++ [c]) s = nx rows (goL rows w s) (c.toNat - 97)
  | [], s => rfl
  | b :: w, s => by rw [List.cons_append, goL, goL_snoc rows c w, goL]
theorem ltr_sub {a : Nat} (h : a < 3) : (UInt8.ofNat (97 + a)).toNat - 97 = a := by
  have : a = 0 ∨ a = 1 ∨ a = 2 := by omega
  rcases this with rfl | rfl | rfl <;> rfl
theorem goL_ltr (rows : List (List Int)) (w : List UInt8) {a : Nat} (h : a < 3) (s : Nat) : goL rows (w ++ ltr a) s = nx rows (goL rows w s) a := by rw [ltr, goL_snoc, ltr_sub h]
theorem mv6_ltr (rows : List (List Int)) (n6 : rows.length ≤ 6) (w : List UInt8) {a : Nat} (h : a < 3) : mv6 rows (extL w a) = nxM rows (mv6 rows w) a := by
  rw [mv6, nxM, mvF, mvF]
  refine List.map_congr_left fun s hs => ?_
  have hs6 : s < 6 := by simpa using hs
  by_cases q : s < rows.length
  · rw [if_pos q, if_pos q, extL, goL_ltr rows w h, mv6, mvF_at hs6 q]
  · rw [if_neg q, if_neg q]
end Go.Proofs.Ythnpflkpjimkfaa

/-
  ALL ELEMENTS OF A MONOID: the law of the search, and the program's memory. Conditions: none.
-/
namespace Go.Proofs.Ythnpflkpjimkfaa
open Go.AM
open Go.Proofs.Try (prog)
set_option linter.all false
set_option maxRecDepth 100000
set_option maxHeartbeats 8000000
def okW (k : Nat) (w : List UInt8) : Prop := ∀ c ∈ w, 97 ≤ c.toNat ∧ c.toNat - 97 < k
theorem letF_iff (k : Nat) (s : List UInt8) : letF k s s.length 0 = true ↔ okW k s := by
  have hb : ∀ i (h : i < s.length), byt s i = s[i].toNat := fun i h => by simp [byt, h]
  simp only [letF, List.all_eq_true, List.mem_range'_1, letB, Bool.and_eq_true, decide_eq_true_eq, okW]
  constructor
  · intro h c hc
    obtain ⟨i, hi, rfl⟩ := List.getElem_of_mem hc
    have := h i ⟨by omega, by omega⟩
    rwa [hb i hi] at this
  · intro h i hi
    have hi' : i < s.length := by omega
    rw [hb i hi']
    exact h _ (List.getElem_mem hi')
theorem okW_ext {k a : Nat} {w : List UInt8} (h : okW k w) (ha : a < k) (hk : k ≤ 3) : okW k (extL w a) := by
  intro c hc
  rcases List.mem_append.1 hc with hc | hc
  · exact h c hc
  · simp [ltr] at hc
    subst hc
    have : a = 0 ∨ a = 1 ∨ a = 2 := by omega
    rcases this with rfl | rfl | rfl <;> exact ⟨by decide, by simpa using ha⟩
theorem okW_nil (k : Nat) : okW k [] := by simp [okW]
theorem okW_app {k : Nat} {u w : List UInt8} (h : okW k u) (g : okW k w) : okW k (u ++ w) := fun c hc => by
  rcases List.mem_append.1 hc with hc | hc
  · exact h c hc
  · exact g c hc
abbrev SM := List (List Nat) × List (List UInt8)
structure MOk (rows : List (List Int)) (k : Nat) (S : SM) : Prop where
  nd : S.1.Nodup
  eq : S.1 = S.2.map (mv6 rows)
  ok : ∀ w ∈ S.2, okW k w ∧ w.length ≤ S.2.length
  le : S.1.length ≤ 400
section
variable {rows : List (List Int)} {k : Nat} {S : SM}
theorem MOk.len (h : MOk rows k S) : S.1.length = S.2.length := by rw [h.eq]; simp
theorem MOk.at (h : MOk rows k S) {i : Nat} {x : List Nat} {w : List UInt8} (h1 : S.1[i]? = some x) (h2 : S.2[i]? = some w) : x = mv6 rows w := by
  rw [h.eq, List.getElem?_map, h2] at h1
  exact (Option.some.inj h1).symm
theorem MOk.add (h : MOk rows k S) (n6 : rows.length ≤ 6) (k3 : k ≤ 3) {w : List UInt8} {a : Nat} (hw : w ∈ S.2) (ha : a < k) (hn : nxM rows (mv6 rows w) a ∉ S.1) (hl : S.1.length ≠ 400) : MOk rows k (S.1 ++ [nxM rows (mv6 rows w) a], S.2 ++ [extL w a]) := by
  have hle := h.le
  have hlen := h.len
  refine ⟨?_, ?_, ?_, ?_⟩
  · rw [List.nodup_append]
    refine ⟨h.nd, by simp, ?_⟩
    intro x hx y hy
    simp at hy
    subst hy
    exact fun e => hn (e ▸ hx)
  · simp only [List.map_append, List.map_cons, List.map_nil]
    rw [← h.eq, mv6_ltr rows n6 w (by omega)]
  · intro u hu
    rcases List.mem_append.1 hu with hu | hu
    · have := h.ok u hu
      exact ⟨this.1, by simp; omega⟩
    · simp at hu
      subst hu
      have := h.ok w hw
      exact ⟨okW_ext this.1 ha k3, by simp [extL, ltr]; omega⟩
  · simp; omega
end
def isF : AV → Bool
  | .fsl .. => true
  | _ => false
def Nf (h : Nat → Option AObj) (v : AV) (xs : List AV) (lo hi : Nat) : Prop := v = .fsl true xs.length xs ∨ ∃ R, v = .sl R 1 0 xs.length xs.length ∧ h R = some (.cells xs) ∧ lo ≤ R ∧ R < hi
section
variable {h h' : Nat → Option AObj} {v : AV} {xs : List AV} {lo hi hi' : Nat}
theorem Nf.fr (n : Nf h v xs lo hi) (e : ∀ y, lo ≤ y → y < hi → objId v = some y → h' y = h y) (l : hi ≤ hi') : Nf h' v xs lo hi' := by
  rcases n with rfl | ⟨R, rfl, h1, h2, h3⟩
  · exact .inl rfl
  · exact .inr ⟨R, rfl, by rw [e R h2 h3 rfl, h1], h2, by omega⟩
theorem Nf.one (n : Nf h v xs lo hi) : v.one = true := by
  rcases n with rfl | ⟨R, rfl, h1, h2, h3⟩ <;> rfl
theorem Nf.oid (n : Nf h v xs lo hi) {y : Nat} (e : objId v = some y) : lo ≤ y ∧ y < hi := by
  rcases n with rfl | ⟨R, rfl, h1, h2, h3⟩
  · cases e
  · simp [objId] at e; omega
theorem Nf.len (n : Nf h v xs lo hi) : lenSl v = some (.int .i64 xs.length) := by
  rcases n with rfl | ⟨R, rfl, h1, h2, h3⟩ <;> rfl
theorem Nf.at (n : Nf h v xs lo hi) {i : Nat} (hi' : i < xs.length) : ∃ p, idxSl 1 v (.int .i64 i) = some p ∧ (∀ nx, loadA false 1 ⟨h, nx⟩ p = xs[i]?) ∧ objId p = objId v := by
  rcases n with rfl | ⟨R, rfl, h1, h2, h3⟩
  · exact ⟨.fptr (xs.drop i), by simp [hi'], fun nx => by simp [loadA, readN, read1, List.head?_drop], rfl⟩
  · exact ⟨.ptr R i xs.length, by simp [hi'], fun nx => by simp [h1], rfl⟩
theorem Nf.deep (n : Nf h v xs lo hi) (d : Nat) (hd : ∀ x ∈ xs, AM.deep h d x = some x) : AM.deep h (d + 1) v = some (.fsl (isF v) xs.length xs) := by
  rcases n with rfl | ⟨R, rfl, h1, h2, h3⟩
  · rfl
  · simp [AM.deep, h1, mapO_same xs hd, isF]
theorem Nf.app {nx by' : Nat} (n : Nf h v xs lo hi) (hh : hi ≤ nx) (hl : lo ≤ nx) (hr : room (xs.length + 1) by' = true) (y : AV) :
    ∃ v' h' nx', appT 1 by' ⟨h, nx⟩ v (some (1, [y])) = some (v', ⟨h', nx'⟩) ∧ Nf h' v' (xs ++ [y]) lo nx' ∧ nx ≤ nx' ∧ nx' ≤ nx + 1 ∧ (∀ z, objId v' = some z → objId v = some z ∨ z = nx) ∧ (∀ z, objId v' ≠ some z → h' z = h z) ∧ isF v' = false := by
  rcases n with rfl | ⟨R, rfl, h1, h2, h3⟩
  · refine ⟨.sl nx 1 0 (xs.length + 1) (xs.length + 1), upd h nx (some (.cells (xs ++ [y]))), nx + 1, ?_, .inr ⟨nx, by simp, by simp, hl, by omega⟩, by omega, by omega, fun z e => .inr (by simp [objId] at e; omega), fun z e => updNe (fun q => e (by rw [q]; rfl)), rfl⟩
    simp at hr
    simp [Mem.new, hr]
  · refine ⟨.sl R 1 0 (xs.length + 1) (xs.length + 1), upd h R (some (.cells (xs ++ [y]))), nx, ?_, .inr ⟨R, by simp, by simp, h2, by omega⟩, by omega, by omega, fun z e => .inl e, fun z e => updNe (fun q => e (by rw [q]; rfl)), rfl⟩
    simp at hr
    simp [h1, hr.1, hr.2]
end
end Go.Proofs.Ythnpflkpjimkfaa

/-
  ALL ELEMENTS OF A MONOID: the program's search. Conditions: none.
-/
namespace Go.Proofs.Ythnpflkpjimkfaa
open Go.AM
open Go.Proofs.Try (prog)
set_option linter.all false
set_option maxRecDepth 100000
set_option maxHeartbeats 8000000
def natV (x : Nat) : AV := .int .i64 (x : Nat)
structure Md (m : Mem) (M O : Nat) (nv gv wv : AV) (S : SM) (lo : Nat) : Prop where
  o : m.h M = some (.cells [nv, gv, wv, .map O])
  w : Nf m.h wv (S.2.map .str) lo m.nx
  p : Mp m O (S.1.map encM) ((List.range S.1.length).map natV)
  mo : M < lo ∧ O < lo ∧ M ≠ O
  x : isF wv = decide (S.2.length = 1)
end Go.Proofs.Ythnpflkpjimkfaa

/-
  ELEMENTS' NUMBERS: the program's Monoid, Element, Idempotents. Conditions: none.
-/
namespace Go.Proofs.Ythnpflkpjimkfaa
open Go.AM
open Go.Proofs.Try (prog)
set_option linter.all false
set_option maxRecDepth 100000
set_option maxHeartbeats 8000000
def numM (rows : List (List Int)) (S : SM) (w : List UInt8) : Nat := S.1.idxOf (mv6 rows w)
structure MW (rows : List (List Int)) (k : Nat) (S : SM) : Prop where
  ok : MOk rows k S
  pre : ∃ p q, S.1 = [mv6 rows []] ++ p ∧ S.2 = [[]] ++ q
  cl : ∀ x ∈ S.1, ∀ a, a < k → nxM rows x a ∈ S.1
section
variable {rows : List (List Int)} {k : Nat} {S : SM}
theorem chr_ltr {c : UInt8} (h : 97 ≤ c.toNat) : [c] = ltr (c.toNat - 97) := by
  rw [ltr, show 97 + (c.toNat - 97) = c.toNat by omega]
  simp
theorem MW.mem (h : MW rows k S) (n6 : rows.length ≤ 6) (k3 : k ≤ 3) : ∀ (w p : List UInt8), okW k w → mv6 rows p ∈ S.1 → mv6 rows (p ++ w) ∈ S.1
  | [], p, _, hp => by simpa using hp
  | c :: w, p, hw, hp => by
    have hc := hw c (by simp)
    have e : p ++ c :: w = (p ++ [c]) ++ w := by simp
    rw [e]
    refine MW.mem h n6 k3 w (p ++ [c]) (fun b hb => hw b (by simp [hb])) ?_
    rw [chr_ltr hc.1]
    have := mv6_ltr rows n6 p (a := c.toNat - 97) (by omega)
    rw [extL] at this
    rw [this]
    exact h.cl _ hp _ hc.2
theorem MW.all (h : MW rows k S) (n6 : rows.length ≤ 6) (k3 : k ≤ 3) {w : List UInt8} (hw : okW k w) : mv6 rows w ∈ S.1 := by
  have := h.mem n6 k3 w [] hw (by obtain ⟨p, _, e, _⟩ := h.pre; rw [e]; simp)
  simpa using this
theorem MW.lt (h : MW rows k S) (n6 : rows.length ≤ 6) (k3 : k ≤ 3) {w : List UInt8} (hw : okW k w) : numM rows S w < S.1.length := List.idxOf_lt_length_iff.2 (h.all n6 k3 hw)
theorem MW.at (h : MW rows k S) (n6 : rows.length ≤ 6) (k3 : k ≤ 3) {w : List UInt8} (hw : okW k w) : S.1[numM rows S w]? = some (mv6 rows w) := by
  have hl := h.lt n6 k3 hw
  rw [List.getElem?_eq_getElem hl]
  simp [numM]
theorem MW.pos (h : MW rows k S) : 0 < S.1.length := by obtain ⟨p, _, e, _⟩ := h.pre; rw [e]; simp
def wrd (S : SM) (i : Nat) : List UInt8 := S.2.getD i []
theorem MW.wok (h : MW rows k S) {i : Nat} (hi : i < S.1.length) : S.2[i]? = some (wrd S i) ∧ okW k (wrd S i) ∧ (wrd S i).length ≤ 400 ∧ S.1[i]? = some (mv6 rows (wrd S i)) := by
  have hi2 : i < S.2.length := by rw [← h.ok.len]; exact hi
  have e : S.2[i]? = some (wrd S i) := by simp [wrd, List.getD_eq_getElem?_getD, hi2]
  have hm := List.mem_of_getElem? e
  have := h.ok.ok _ hm
  have hle := h.ok.le
  have hlen := h.ok.len
  refine ⟨e, this.1, by omega, ?_⟩
  rw [h.ok.eq, List.getElem?_map, e]; rfl
theorem MW.self (h : MW rows k S) {i : Nat} (hi : i < S.1.length) : numM rows S (wrd S i) = i := by
  obtain ⟨_, _, _, e⟩ := h.wok hi
  have e' := (List.getElem?_eq_some_iff.1 e).2
  rw [numM, ← e']
  exact h.ok.nd.idxOf_getElem i hi
end
end Go.Proofs.Ythnpflkpjimkfaa

/-
  Monoid, Element, Idempotents: what the program returns. Conditions: none.
-/
namespace Go.Proofs.Ythnpflkpjimkfaa
open Go.AM
open Go.Proofs.Try (prog)
set_option linter.all false
set_option maxRecDepth 100000
set_option maxHeartbeats 8000000
end Go.Proofs.Ythnpflkpjimkfaa

/-
  BODIES OF FUNCTIONS OF THE PROGRAM AS SMALL OPERATIONS (written by gen.py; checked by the kernel against the program). Conditions: none.
-/
namespace Go.Proofs.Ythnpflkpjimkfaa
open Go.AM
open Go.Proofs.Try (prog)
set_option maxRecDepth 100000
set_option linter.all false
end Go.Proofs.Ythnpflkpjimkfaa

/-
  WHAT WORDS DO, AS STRINGS OF STATES: the specification's. Conditions: none.
-/
namespace Go.Proofs.Ythnpflkpjimkfaa
open Go.AM
open Go.Proofs.Try (prog)
set_option linter.all false
set_option maxRecDepth 100000
set_option maxHeartbeats 8000000
def bysV (l : List UInt8) : List AV := l.map fun b => .int .u8 (b.toNat : Nat)
@[simp] theorem bysV_len (l : List UInt8) : (bysV l).length = l.length := by simp [bysV]
def doF (f : Nat → Nat) (c : Nat) : List UInt8 := (List.range c).map fun s => UInt8.ofNat (f s)
def encD (n : Nat) (t : List Nat) : List UInt8 := doF (fun s => t.getD s 0) n
@[simp] theorem doF_len (f : Nat → Nat) (c : Nat) : (doF f c).length = c := by simp [doF]
theorem ofNat6 {x : Nat} (h : x < 256) : (UInt8.ofNat x).toNat = x := by simp; omega
end Go.Proofs.Ythnpflkpjimkfaa

/-
  ALL ELEMENTS OF A MONOID: the specification's search. Conditions: none.
-/
namespace Go.Proofs.Ythnpflkpjimkfaa
open Go.AM
open Go.Proofs.Try (prog)
set_option linter.all false
set_option maxRecDepth 100000
set_option maxHeartbeats 8000000
structure Dw (h : Nat → Option AObj) (M : Nat) (dv wv : AV) (n : Nat) (S : SM) (lo hi : Nat) : Prop where
  o : h M = some (.cells [dv, wv])
  d : Nf h dv ((S.1.map (encD n)).map .str) lo hi
  w : Nf h wv (S.2.map .str) lo hi
  dj : ∀ y, objId dv = some y → objId wv ≠ some y
  z : h 0 = some (.cells [.nils, .nils])
  mo : M < lo ∧ 0 < M
  x : isF dv = decide (S.2.length = 1) ∧ isF wv = decide (S.2.length = 1)
end Go.Proofs.Ythnpflkpjimkfaa

/-
  PRODUCTS, ELEMENTS, IDEMPOTENTS: the specification's; lists of strings that are the same. Conditions: none.
-/
namespace Go.Proofs.Ythnpflkpjimkfaa
open Go.AM
open Go.Proofs.Try (prog)
set_option linter.all false
set_option maxRecDepth 100000
set_option maxHeartbeats 8000000
section
variable {rows : List (List Int)} {good : List Bool} {k : Nat} {S : SM}
end
end Go.Proofs.Ythnpflkpjimkfaa

/-
  ELEMENTS AND IDEMPOTENTS: the specification's; lists of strings that are the same. Conditions: none.
-/
namespace Go.Proofs.Ythnpflkpjimkfaa
open Go.AM
open Go.Proofs.Try (prog)
set_option linter.all false
set_option maxRecDepth 100000
set_option maxHeartbeats 8000000
def IsS (v : AV) (l : List (List UInt8)) : Prop := (v = .nils ∧ l = []) ∨ ∃ ex, v = .fsl ex l.length (l.map .str)
theorem IsS.len {v : AV} {l : List (List UInt8)} (h : IsS v l) : lenSl v = some (.int .i64 l.length) := by rcases h with ⟨rfl, rfl⟩ | ⟨_, rfl⟩ <;> rfl
theorem IsS.closed {v : AV} {l : List (List UInt8)} (h : IsS v l) : v.closed = true := by rcases h with ⟨rfl, rfl⟩ | ⟨_, rfl⟩ <;> rfl
theorem IsS.one {v : AV} {l : List (List UInt8)} (h : IsS v l) : v.one = true := by rcases h with ⟨rfl, rfl⟩ | ⟨_, rfl⟩ <;> rfl
theorem IsS.idx {v : AV} {l : List (List UInt8)} (h : IsS v l) {i : Nat} (hi : i < l.length) (k : IntKind) : idxSl 1 v (.int k (i : Int)) = some (.fptr ((l.map .str).drop i)) := by
  rcases h with ⟨rfl, rfl⟩ | ⟨_, rfl⟩
  · simp at hi
  · simp [hi]
theorem str_head {l : List (List UInt8)} {i : Nat} (hi : i < l.length) : ((l.map AV.str).drop i).head? = some (.str l[i]) := by
  rw [List.head?_drop]; simp [hi]
end Go.Proofs.Ythnpflkpjimkfaa

/-
  BODIES OF FUNCTIONS OF THE PROGRAM AS SMALL OPERATIONS (written by gen.py; checked by the kernel against the program). Conditions: none.
-/
namespace Go.Proofs.Ythnpflkpjimkfaa
open Go.AM
open Go.Proofs.Try (prog)
set_option maxRecDepth 100000
set_option linter.all false
end Go.Proofs.Ythnpflkpjimkfaa

/-
  ALL PRODUCTS: the specification's table. Conditions: none.
-/
namespace Go.Proofs.Ythnpflkpjimkfaa
open Go.AM
open Go.Proofs.Try (prog)
set_option linter.all false
set_option maxRecDepth 100000
set_option maxHeartbeats 8000000
def pr (rows : List (List Int)) (S : SM) (i j : Nat) : Nat := numM rows S (wrd S i ++ wrd S j)
end Go.Proofs.Ythnpflkpjimkfaa

/-
  BELOW: the elements that are reached by writing letters before or after. The law. Conditions: none.
-/
namespace Go.Proofs.Ythnpflkpjimkfaa
open Go.AM
open Go.Proofs.Try (prog)
set_option linter.all false
set_option maxRecDepth 100000
set_option maxHeartbeats 4000000
inductive Rch (stp : Nat → List Nat) (i : Nat) : Nat → Prop
  | refl : Rch stp i i
  | step {j k : Nat} : Rch stp i j → k ∈ stp j → Rch stp i k
abbrev VP := List Bool × List Nat
def cf (row : List Bool) : Nat := row.countP fun b => !b
structure VI (n : Nat) (stp : Nat → List Nat) (i : Nat) (P : VP) : Prop where
  l : P.1.length = n
  m : bnth P.1 i = true
  r : ∀ j, j < n → bnth P.1 j = true → Rch stp i j
  t : ∀ j ∈ P.2, j < n ∧ bnth P.1 j = true
  c : ∀ j, j < n → bnth P.1 j = true → j ∈ P.2 ∨ ∀ k ∈ stp j, bnth P.1 k = true
section
variable {n : Nat} {stp : Nat → List Nat} {i : Nat}
end
section
variable {rows : List (List Int)} {k : Nat} {S : SM}
def stpM (rows : List (List Int)) (S : SM) (k : Nat) (lf rt : Bool) (i : Nat) : List Nat := (List.range k).flatMap fun a => (if lf = true then [numM rows S (ltr a ++ wrd S i)] else []) ++ (if rt = true then [numM rows S (wrd S i ++ ltr a)] else [])
def Blw (rows : List (List Int)) (S : SM) (k : Nat) (lf rt : Bool) (i j : Nat) : Prop := ∃ u v, okW k u ∧ okW k v ∧ (lf = false → u = []) ∧ (rt = false → v = []) ∧ numM rows S (u ++ wrd S i ++ v) = j
theorem mv6_congr {u u' w w' : List UInt8} (h1 : ∀ s, s < rows.length → goL rows u s = goL rows u' s) (hlt : ∀ s, s < rows.length → goL rows u' s < rows.length) (h2 : ∀ s, s < rows.length → goL rows w s = goL rows w' s) : ∀ s, s < rows.length → goL rows (u ++ w) s = goL rows (u' ++ w') s := fun s hs => by
  have ga : ∀ (u w : List UInt8) (s : Nat), goL rows (u ++ w) s = goL rows w (goL rows u s) := by
    intro u
    induction u with
    | nil => intro w s; rfl
    | cons c u ih => intro w s; rw [List.cons_append, goL, goL, ih]
  rw [ga, ga, h1 s hs, h2 _ (hlt s hs)]
theorem mv6_ext {u u' : List UInt8} (h : ∀ s, s < rows.length → goL rows u s = goL rows u' s) : mv6 rows u = mv6 rows u' := by
  rw [mv6, mv6, mvF, mvF]
  refine List.map_congr_left fun s hs => ?_
  by_cases q : s < rows.length
  · rw [if_pos q, if_pos q, h s q]
  · rw [if_neg q, if_neg q]
theorem mv6_at {u u' : List UInt8} (n6 : rows.length ≤ 6) (h : mv6 rows u = mv6 rows u') : ∀ s, s < rows.length → goL rows u s = goL rows u' s := fun s hs => by
  have e1 : (mv6 rows u).getD s 0 = goL rows u s := mvF_at (by omega) hs
  have e2 : (mv6 rows u').getD s 0 = goL rows u' s := mvF_at (by omega) hs
  rw [← e1, ← e2, h]
variable {good : List Bool}
theorem goL_lt7 (v : VB rows good k) {w : List UInt8} (hw : okW k w) {s : Nat} (hs : s < rows.length) : goL rows w s < rows.length := by
  have := goL_lt v w w.length 0 s (by omega) hs ((letF_iff k w).2 hw)
  rw [goF_goL rows w w.length 0 s (by omega)] at this
  simpa using this
theorem num_congr (v : VB rows good k) {u w w' x : List UInt8} (hu : okW k u) (hw : okW k w) (hw' : okW k w') (h : mv6 rows w = mv6 rows w') : numM rows S (u ++ w ++ x) = numM rows S (u ++ w' ++ x) := by
  have h1 := mv6_at v.n6 h
  have : mv6 rows (u ++ w ++ x) = mv6 rows (u ++ w' ++ x) := mv6_ext (mv6_congr (mv6_congr (fun _ _ => rfl) (fun s hs => goL_lt7 v hu hs) h1) (fun s hs => goL_lt7 v (okW_app hu hw') hs) (fun _ _ => rfl))
  rw [numM, numM, this]
theorem wrd_num (v : VB rows good k) (W : MW rows k S) {w : List UInt8} (hw : okW k w) : mv6 rows (wrd S (numM rows S w)) = mv6 rows w := by
  have h1 := W.at v.n6 v.k3 hw
  obtain ⟨_, _, _, h2⟩ := W.wok (W.lt v.n6 v.k3 hw)
  rw [h1] at h2
  exact (Option.some.inj h2).symm
theorem okW_ltr {a : Nat} (ha : a < k) (k3 : k ≤ 3) : okW k (ltr a) := by
  have := okW_ext (okW_nil k) ha k3
  simpa [extL] using this
theorem blw_of_rch (v : VB rows good k) (W : MW rows k S) {lf rt : Bool} {i j : Nat} (hi : i < S.1.length) (r : Rch (stpM rows S k lf rt) i j) : Blw rows S k lf rt i j := by
  obtain ⟨_, wi, _, _⟩ := W.wok hi
  induction r with
  | refl => exact ⟨[], [], okW_nil k, okW_nil k, fun _ => rfl, fun _ => rfl, by simpa using W.self hi⟩
  | step r1 hk ih =>
    rename_i j k'
    obtain ⟨u, x, hu, hx, h1, h2, e⟩ := ih
    have hok := okW_app (okW_app hu wi) hx
    have hj : mv6 rows (wrd S j) = mv6 rows (u ++ wrd S i ++ x) := by rw [← e]; exact wrd_num v W hok
    have hjl : j < S.1.length := by rw [← e]; exact W.lt v.n6 v.k3 hok
    obtain ⟨_, wj, _, _⟩ := W.wok hjl
    simp only [stpM, List.mem_flatMap, List.mem_range] at hk
    obtain ⟨a, ha, hk⟩ := hk
    have ho := okW_ltr ha v.k3
    rcases List.mem_append.1 hk with hk | hk
    · split at hk
      · rename_i hl
        simp at hk
        refine ⟨ltr a ++ u, x, okW_app ho hu, hx, fun q => (by rw [hl] at q; cases q), h2, ?_⟩
        have := num_congr (S := S) (x := []) v ho wj hok hj
        simp only [List.append_nil] at this
        rw [hk, this]; simp only [List.append_assoc]
      · simp at hk
    · split at hk
      · rename_i hl
        simp at hk
        refine ⟨u, x ++ ltr a, hu, okW_app hx ho, h1, fun q => (by rw [hl] at q; cases q), ?_⟩
        have := num_congr (S := S) (u := []) (x := ltr a) v (okW_nil k) wj hok hj
        simp only [List.nil_append] at this
        rw [hk, this]; simp only [List.append_assoc]
      · simp at hk
theorem rch_of_blw (v : VB rows good k) (W : MW rows k S) {lf rt : Bool} {i j : Nat} (hi : i < S.1.length) (b : Blw rows S k lf rt i j) : Rch (stpM rows S k lf rt) i j := by
  obtain ⟨_, wi, _, _⟩ := W.wok hi
  have left : ∀ (u : List UInt8), okW k u → (lf = false → u = []) → Rch (stpM rows S k lf rt) i (numM rows S (u ++ wrd S i)) := by
    intro u
    induction u with
    | nil => intro _ _; rw [List.nil_append, W.self hi]; exact .refl
    | cons c u ih =>
      intro hu hl
      have hlt : lf = true := by cases lf with
        | true => rfl
        | false => exact absurd (hl rfl) (by simp)
      have hu' : okW k u := fun b hb => hu b (by simp [hb])
      have hc := hu c (by simp)
      have r := ih hu' (fun q => by rw [hlt] at q; cases q)
      refine r.step ?_
      have hok := okW_app hu' wi
      have hjl := W.lt v.n6 v.k3 hok
      obtain ⟨_, wj, _, _⟩ := W.wok hjl
      simp only [stpM, List.mem_flatMap, List.mem_range]
      refine ⟨c.toNat - 97, hc.2, List.mem_append_left _ ?_⟩
      rw [if_pos hlt, ← chr_ltr hc.1]
      have := num_congr (S := S) (u := [c]) (x := []) v (fun b hb => hu b (by simp at hb; simp [hb])) wj hok (wrd_num v W hok)
      simp only [List.append_nil] at this
      rw [this]; simp
  obtain ⟨u, x, hu, hx, h1, h2, e⟩ := b
  have right : ∀ (x y : List UInt8), okW k x → okW k y → (rt = false → x = []) → Rch (stpM rows S k lf rt) i (numM rows S (u ++ wrd S i ++ y)) → Rch (stpM rows S k lf rt) i (numM rows S (u ++ wrd S i ++ y ++ x)) := by
    intro x
    induction x with
    | nil => intro y _ _ _ r; rw [List.append_nil]; exact r
    | cons c x ih =>
      intro y hx hy hl r
      have hrt : rt = true := by cases rt with
        | true => rfl
        | false => exact absurd (hl rfl) (by simp)
      have hc := hx c (by simp)
      have hx' : okW k x := fun b hb => hx b (by simp [hb])
      have hc1 : okW k [c] := fun b hb => hx b (by simp at hb; simp [hb])
      have e1 : u ++ wrd S i ++ y ++ c :: x = u ++ wrd S i ++ (y ++ [c]) ++ x := by simp
      rw [e1]
      refine ih (y ++ [c]) hx' (okW_app hy hc1) (fun q => by rw [hrt] at q; cases q) (r.step ?_)
      have hok := okW_app (okW_app hu wi) hy
      have hjl := W.lt v.n6 v.k3 hok
      obtain ⟨_, wj, _, _⟩ := W.wok hjl
      simp only [stpM, List.mem_flatMap, List.mem_range]
      refine ⟨c.toNat - 97, hc.2, List.mem_append_right _ ?_⟩
      rw [if_pos hrt, ← chr_ltr hc.1]
      have := num_congr (S := S) (u := []) (x := [c]) v (okW_nil k) wj hok (wrd_num v W hok)
      simp only [List.nil_append] at this
      rw [this]; simp
  have := right x [] hx (okW_nil k) h2 (by rw [List.append_nil]; exact left u hu h1)
  rw [List.append_nil, e] at this
  exact this
end
end Go.Proofs.Ythnpflkpjimkfaa

/-
  BODIES OF FUNCTIONS OF THE PROGRAM AS SMALL OPERATIONS (written by gen.py; checked by the kernel against the program). Conditions: none.
-/
namespace Go.Proofs.Ythnpflkpjimkfaa
open Go.AM
open Go.Proofs.Try (prog)
set_option maxRecDepth 100000
set_option linter.all false
end Go.Proofs.Ythnpflkpjimkfaa

/-
  BELOW: the program's steps, a table of lists. Conditions: none.
-/
namespace Go.Proofs.Ythnpflkpjimkfaa
open Go.AM
open Go.Proofs.Try (prog)
set_option linter.all false
set_option maxRecDepth 100000
set_option maxHeartbeats 8000000
def vat (vs : List AV) (i : Nat) : AV := vs.getD i .nils
def lat (L : List (List Nat)) (i : Nat) : List Nat := L.getD i []
theorem vat_set {vs : List AV} {i j : Nat} {x : AV} (h : i < vs.length) : vat (vs.set i x) j = if i = j then x else vat vs j := by
  simp only [vat, List.getD_eq_getElem?_getD, List.getElem?_set]
  by_cases e : i = j
  · subst e; simp [h]
  · simp [e]
theorem lat_set {vs : List (List Nat)} {i j : Nat} {x : List Nat} (h : i < vs.length) : lat (vs.set i x) j = if i = j then x else lat vs j := by
  simp only [lat, List.getD_eq_getElem?_getD, List.getElem?_set]
  by_cases e : i = j
  · subst e; simp [h]
  · simp [e]
structure Tb (h : Nat → Option AObj) (T : Nat) (vs : List AV) (L : List (List Nat)) (lo hi : Nat) : Prop where
  o : h T = some (.cells vs)
  l : vs.length = L.length
  e : ∀ i, i < L.length → Nl h (vat vs i) ((lat L i).map natV) lo hi
  dj : ∀ i j, i < L.length → j < L.length → i ≠ j → ∀ y, objId (vat vs i) = some y → objId (vat vs j) ≠ some y
  t : T < lo
section
variable {h : Nat → Option AObj} {T : Nat} {vs : List AV} {L : List (List Nat)} {lo hi : Nat}
theorem Tb.ld (B : Tb h T vs L lo hi) {i : Nat} (hi : i < L.length) (nx : Nat) : loadA false 1 ⟨h, nx⟩ (.ptr T i L.length) = some (vat vs i) := by
  have hv : i < vs.length := by rw [B.l]; exact hi
  rw [loadA_ptr]
  show loadO false 1 i L.length (h T) = _
  rw [B.o, loadO_cells]
  simp [B.l, vat, hv, hi, List.getD_eq_getElem?_getD]
theorem Tb.fr {h' : Nat → Option AObj} {hi' : Nat} (B : Tb h T vs L lo hi) (e : ∀ y, y < hi → h' y = h y) (l : hi ≤ hi') (hl : lo ≤ hi) : Tb h' T vs L lo hi' :=
  ⟨by rw [e T (by have := B.t; omega), B.o], B.l, fun i hi => (B.e i hi).fr (fun y y1 y2 _ => e y y2) l, B.dj, B.t⟩
theorem Tb.push (B : Tb h T vs L lo hi) {nx : Nat} (hh : hi ≤ nx) (hl : lo ≤ hi) {i : Nat} (hiL : i < L.length) (hr : (lat L i).length ≤ 1000) (x : Nat) :
    ∃ v' h' nx', appT 1 8 ⟨h, nx⟩ (vat vs i) (some (1, [natV x])) = some (v', ⟨h', nx'⟩) ∧ (∀ n2, stA false 1 ⟨h', n2⟩ (.ptr T i L.length) v' = some (.tup [], ⟨upd h' T (some (.cells (vs.set i v'))), n2⟩)) ∧ Tb (upd h' T (some (.cells (vs.set i v')))) T (vs.set i v') (L.set i (lat L i ++ [x])) lo (nx + 1) ∧ (∀ y, y < lo → y ≠ T → (upd h' T (some (.cells (vs.set i v')))) y = h y) := by
  have hv : i < vs.length := by rw [B.l]; exact hiL
  have hT := B.t
  obtain ⟨v', h', nx', g1, g2, g3, g4, g5, g6, g7⟩ := (B.e i hiL).app (nx := nx) (by' := 8) hh (by omega) (by simp; omega) (natV x)
  have hid : ∀ y, objId v' = some y → lo ≤ y := fun y e => by
    rcases g5 y e with q | q
    · exact ((B.e i hiL).oid q).1
    · omega
  have hT' : h' T = some (.cells vs) := by rw [g6 T (fun e => by have := hid T e; omega), B.o]
  refine ⟨v', h', nx', g1, fun n2 => ?_, ⟨by simp, by simp [B.l], fun j hj => ?_, fun j j' hj hj' hne y => ?_, hT⟩, fun y y1 y2 => by rw [updNe y2, g6 y (fun e => by have := hid y e; omega)]⟩
  · rw [stA_ptr]
    show stO false 1 ⟨h', n2⟩ T i L.length v' (h' T) = _
    rw [hT', stO_cells0]
    simp [B.l, hiL, (show v'.one = true from g2.one), Mem.set]
  · have hj : j < L.length := by simpa using hj
    rw [vat_set hv, lat_set hiL]
    by_cases q : i = j
    · rw [if_pos q, if_pos q, List.map_append]
      exact g2.fr (fun y y1 y2 _ => updNe (by omega)) g4
    · rw [if_neg q, if_neg q]
      exact (B.e j hj).fr (fun y y1 y2 ye => by
        rw [updNe (by omega), g6 y (fun e => by
          rcases g5 y e with w | w
          · exact B.dj i j hiL hj q y w ye
          · omega)]) (by omega)
  · have hj : j < L.length := by simpa using hj
    have hj' : j' < L.length := by simpa using hj'
    rw [vat_set hv, vat_set hv]
    by_cases q : i = j
    · rw [if_pos q, if_neg (by omega)]
      intro e e'
      rcases g5 y e with w | w
      · exact B.dj i j' hiL hj' (by omega) y w e'
      · have := (B.e j' hj').oid e'; omega
    · rw [if_neg q]
      by_cases q' : i = j'
      · rw [if_pos q']
        intro e e'
        rcases g5 y e' with w | w
        · exact B.dj i j hiL hj q y w e
        · have := (B.e j hj).oid e; omega
      · rw [if_neg q']; exact B.dj j j' hj hj' hne y
end
end Go.Proofs.Ythnpflkpjimkfaa

/-
  BELOW: the program's searches, and what it returns. Conditions: none.
-/
namespace Go.Proofs.Ythnpflkpjimkfaa
open Go.AM
open Go.Proofs.Try (prog)
set_option linter.all false
set_option maxRecDepth 100000
set_option maxHeartbeats 8000000
structure Bs (h : Nat → Option AObj) (nx : Nat) (T d : Nat) (vs : List AV) (L : List (List Nat)) (lo hiT : Nat) (ids : List Nat) (Dp : MB) (n e : Nat) (q : AV) (iq : Nat) (P : VP) : Prop where
  tb : Tb h T vs L lo hiT
  bt : Bt h d ids (Dp ++ [P.1]) n e
  q : Gl ⟨h, nx⟩ q iq 1 P.2.length (P.2.map natV)
  lt : lo ≤ hiT ∧ hiT ≤ d ∧ (∀ y ∈ ids, hiT ≤ y ∧ y < nx) ∧ hiT ≤ iq ∧ iq ≠ d ∧ iq ∉ ids ∧ d < nx
  s : cf P.1 + P.2.length ≤ 500
end Go.Proofs.Ythnpflkpjimkfaa

/-
  BELOW: what the program returns. Conditions: none.
-/
namespace Go.Proofs.Ythnpflkpjimkfaa
open Go.AM
open Go.Proofs.Try (prog)
set_option linter.all false
set_option maxRecDepth 100000
set_option maxHeartbeats 8000000
end Go.Proofs.Ythnpflkpjimkfaa

/-
  CLASSES: what the program returns. Conditions: none.
-/
namespace Go.Proofs.Ythnpflkpjimkfaa
open Go.AM
open Go.Proofs.Try (prog)
set_option linter.all false
set_option maxRecDepth 100000
set_option maxHeartbeats 8000000
structure Eqv (E : Nat → Nat → Bool) (n : Nat) : Prop where
  rf : ∀ i, i < n → E i i = true
  sy : ∀ i j, i < n → j < n → E i j = true → E j i = true
  tr : ∀ i j k, i < n → j < n → k < n → E i j = true → E j k = true → E i k = true
def clV (S : SM) (c : List Nat) : List AV := c.map fun j => .str (wrd S j)
end Go.Proofs.Ythnpflkpjimkfaa

/-
  CLASSES: all of them. Conditions: none.
-/
namespace Go.Proofs.Ythnpflkpjimkfaa
open Go.AM
open Go.Proofs.Try (prog)
set_option linter.all false
set_option maxRecDepth 100000
set_option maxHeartbeats 8000000
end Go.Proofs.Ythnpflkpjimkfaa

/-
  CLASSES: Left, Right, Classes; lists of lists that are the same. Conditions: none.
-/
namespace Go.Proofs.Ythnpflkpjimkfaa
open Go.AM
open Go.Proofs.Try (prog)
set_option linter.all false
set_option maxRecDepth 100000
set_option maxHeartbeats 8000000
theorem Rch.trans {stp : Nat → List Nat} {i j k : Nat} (h : Rch stp i j) (g : Rch stp j k) : Rch stp i k := by
  induction g with
  | refl => exact h
  | step _ hk ih => exact ih.step hk
section
variable {rows : List (List Int)} {good : List Bool} {k : Nat} {S : SM}
theorem Blw.rf (W : MW rows k S) {lf rt : Bool} {i : Nat} (hi : i < S.1.length) : Blw rows S k lf rt i i := ⟨[], [], okW_nil k, okW_nil k, fun _ => rfl, fun _ => rfl, by simpa using W.self hi⟩
theorem Blw.tr (v : VB rows good k) (W : MW rows k S) {lf rt : Bool} {i j l : Nat} (hi : i < S.1.length) (hj : j < S.1.length) (h : Blw rows S k lf rt i j) (g : Blw rows S k lf rt j l) : Blw rows S k lf rt i l :=
  blw_of_rch v W hi ((rch_of_blw v W hi h).trans (rch_of_blw v W hj g))
end
def IsSS (v : AV) (l : List (List (List UInt8))) : Prop := (v = .nils ∧ l = []) ∨ ∃ ex cs, v = .fsl ex l.length cs ∧ cs.length = l.length ∧ ∀ i (hi : i < l.length), ∃ x, cs[i]? = some x ∧ IsS x l[i]
theorem IsSS.len {v : AV} {l : List (List (List UInt8))} (h : IsSS v l) : lenSl v = some (.int .i64 l.length) := by rcases h with ⟨rfl, rfl⟩ | ⟨_, _, rfl, _⟩ <;> rfl
theorem IsSS.closed {v : AV} {l : List (List (List UInt8))} (h : IsSS v l) : v.closed = true := by rcases h with ⟨rfl, rfl⟩ | ⟨_, _, rfl, _⟩ <;> rfl
theorem IsSS.one {v : AV} {l : List (List (List UInt8))} (h : IsSS v l) : v.one = true := by rcases h with ⟨rfl, rfl⟩ | ⟨_, _, rfl, _⟩ <;> rfl
theorem IsSS.at {v : AV} {l : List (List (List UInt8))} (h : IsSS v l) {i : Nat} (hi : i < l.length) : ∃ cs x, idxSl 1 v (.int .i64 (i : Int)) = some (.fptr cs) ∧ cs.head? = some x ∧ IsS x l[i] := by
  rcases h with ⟨rfl, rfl⟩ | ⟨_, cs, rfl, h1, h2⟩
  · simp at hi
  · obtain ⟨x, hx, hs⟩ := h2 i hi
    exact ⟨cs.drop i, x, by simp [hi], by rw [List.head?_drop]; exact hx, hs⟩
end Go.Proofs.Ythnpflkpjimkfaa

/-
  BELOW: the specification's. Conditions: none.
-/
namespace Go.Proofs.Ythnpflkpjimkfaa
open Go.AM
open Go.Proofs.Try (prog)
set_option linter.all false
set_option maxRecDepth 100000
set_option maxHeartbeats 8000000
end Go.Proofs.Ythnpflkpjimkfaa

/-
  BELOW: what the specification's marks mean. Conditions: none.
-/
namespace Go.Proofs.Ythnpflkpjimkfaa
open Go.AM
open Go.Proofs.Try (prog)
set_option linter.all false
set_option maxRecDepth 100000
set_option maxHeartbeats 8000000
section
variable {rows : List (List Int)} {good : List Bool} {k : Nat} {S : SM}
end
end Go.Proofs.Ythnpflkpjimkfaa

/-
  THE WORDS OF A MONOID ARE THE LEAST ONES: plain law. Conditions: none.
-/
namespace Go.Proofs.Ythnpflkpjimkfaa
open Go.AM
open Go.Proofs.Try (prog)
set_option linter.all false
set_option maxRecDepth 100000
set_option maxHeartbeats 8000000
def rk (w : List UInt8) : Nat := w.foldl (fun n c => n * 256 + (c.toNat + 1)) 0
theorem rk_snoc (w : List UInt8) (c : UInt8) : rk (w ++ [c]) = rk w * 256 + (c.toNat + 1) := by simp [rk]
theorem rk_nil : rk [] = 0 := rfl
theorem rk_ltr (w : List UInt8) {a : Nat} (ha : a < 3) : rk (w ++ ltr a) = rk w * 256 + (98 + a) := by
  rw [ltr, rk_snoc, ofNat6 (by omega)]; omega
theorem snoc_of {α : Type} : ∀ (l : List α), l ≠ [] → ∃ p x, l = p ++ [x]
  | [], h => absurd rfl h
  | [a], _ => ⟨[], a, rfl⟩
  | a :: b :: l, _ => by
    obtain ⟨p, x, e⟩ := snoc_of (b :: l) (by simp)
    exact ⟨a :: p, x, by rw [e]; rfl⟩
theorem rk_len : ∀ (n : Nat) (u w : List UInt8), u.length = n → u.length < w.length → rk u < rk w
  | 0, u, w, hu, h => by
    have : u = [] := List.length_eq_zero_iff.1 hu
    subst this
    obtain ⟨p, x, rfl⟩ := snoc_of w (by intro e; subst e; simp at h)
    rw [rk_snoc, rk_nil]; omega
  | n + 1, u, w, hu, h => by
    obtain ⟨p, x, rfl⟩ := snoc_of u (by intro e; subst e; simp at hu)
    obtain ⟨q, y, rfl⟩ := snoc_of w (by intro e; subst e; simp at h)
    simp at hu h
    have := rk_len n p q hu h
    have hx := x.toNat_lt
    rw [rk_snoc, rk_snoc]
    omega
def rk0 (n : Nat) (w : List UInt8) : Nat := w.foldl (fun n c => n * 256 + (c.toNat + 1)) n
theorem rk0_eq : ∀ (w : List UInt8) (n : Nat), rk0 n w = n * 256 ^ w.length + rk w
  | [], n => by simp [rk0, rk]
  | c :: w, n => by
    have h1 := rk0_eq w (n * 256 + (c.toNat + 1))
    have h2 := rk0_eq w (0 * 256 + (c.toNat + 1))
    have e1 : rk0 n (c :: w) = rk0 (n * 256 + (c.toNat + 1)) w := rfl
    have e2 : rk (c :: w) = rk0 (0 * 256 + (c.toNat + 1)) w := rfl
    rw [e1, e2, h1, h2, List.length_cons, Nat.pow_succ]
    have : (n * 256 + (c.toNat + 1)) * 256 ^ w.length = n * (256 ^ w.length * 256) + (0 * 256 + (c.toNat + 1)) * 256 ^ w.length := by
      rw [Nat.add_mul, Nat.zero_mul, Nat.zero_add, Nat.mul_assoc, Nat.mul_comm 256]
    omega
theorem rk_cons (c : UInt8) (w : List UInt8) : rk (c :: w) = (c.toNat + 1) * 256 ^ w.length + rk w := by
  have e2 : rk (c :: w) = rk0 (0 * 256 + (c.toNat + 1)) w := rfl
  rw [e2, rk0_eq, Nat.zero_mul, Nat.zero_add]
theorem rk_near : ∀ (u w : List UInt8), u.length = w.length → rk u + 1 ≤ rk w + 256 ^ w.length
  | [], [], _ => by simp [rk]
  | [], _ :: _, h => by simp at h
  | _ :: _, [], h => by simp at h
  | a :: u, b :: w, h => by
    have ih := rk_near u w (by simpa using h)
    have hl : u.length = w.length := by simpa using h
    rw [rk_cons, rk_cons, List.length_cons, Nat.pow_succ, hl]
    have ha := a.toNat_lt
    generalize 256 ^ w.length = z at *
    have h1 : (a.toNat + 1) * z ≤ 256 * z := Nat.mul_le_mul_right _ (by omega)
    have h2 : z ≤ (b.toNat + 1) * z := Nat.le_mul_of_pos_left _ (by omega)
    omega
theorem rk_less : ∀ (u w : List UInt8), u.length = w.length → Op.bytesLess u w = true → rk u < rk w
  | [], [], _, h => by simp [Op.bytesLess] at h
  | [], _ :: _, h, _ => by simp at h
  | _ :: _, [], h, _ => by simp at h
  | a :: u, b :: w, h, g => by
    have hl : u.length = w.length := by simpa using h
    rw [rk_cons, rk_cons, hl]
    have nr := rk_near u w hl
    generalize hz : 256 ^ w.length = z at *
    rcases Nat.lt_trichotomy a.toNat b.toNat with c | c | c
    · have : (a.toNat + 1) * z + z ≤ (b.toNat + 1) * z := by
        rw [← Nat.succ_mul]; exact Nat.mul_le_mul_right _ (by omega)
      omega
    · have e : a = b := UInt8.toNat_inj.1 c
      subst e
      have g' : Op.bytesLess u w = true := by simpa [Op.bytesLess] using g
      have := rk_less u w hl g'
      omega
    · exfalso
      have h1 : ¬ a < b := by rw [UInt8.lt_iff_toNat_lt]; omega
      have h2 : ¬ a = b := fun e => by subst e; omega
      simp [Op.bytesLess, h1, h2] at g
      first | done | omega
section
variable {rows : List (List Int)} {k : Nat}
def OrI (rows : List (List Int)) (S : SM) (j b : Nat) : Prop := ∃ m, S.1[m]? = some (nxM rows (S.1.getD j []) b) ∧ rk (S.2.getD m []) ≤ rk (S.2.getD j []) * 256 + (98 + b)
theorem OrI.app {S : SM} {j b : Nat} (h : OrI rows S j b) (hl : S.1.length = S.2.length) (hj : j < S.1.length) (p : List (List Nat)) (q : List (List UInt8)) : OrI rows (S.1 ++ p, S.2 ++ q) j b := by
  obtain ⟨m, h1, h2⟩ := h
  have hm := (List.getElem?_eq_some_iff.1 h1).1
  have g1 : ∀ i, i < S.1.length → (S.1 ++ p).getD i [] = S.1.getD i [] := fun i hi => by simp [List.getD_eq_getElem?_getD, List.getElem?_append_left hi]
  have g2 : ∀ i, i < S.1.length → (S.2 ++ q).getD i [] = S.2.getD i [] := fun i hi => by
    have : i < S.2.length := by omega
    simp [List.getD_eq_getElem?_getD, List.getElem?_append_left this]
  refine ⟨m, ?_, ?_⟩
  · simp only []
    rw [g1 j hj, List.getElem?_append_left hm]; exact h1
  · simp only []
    rw [g2 m hm, g2 j hj]; exact h2
structure Srt (S : SM) (b : Nat) : Prop where
  l : S.1.length = S.2.length
  s : S.2.Pairwise fun u w => rk u < rk w
  b : ∀ y ∈ S.2, rk y < b
end
section
variable {rows : List (List Int)} {good : List Bool} {k : Nat} {S : SM}
structure Least (rows : List (List Int)) (k : Nat) (S : SM) : Prop where
  inc : ∀ i j, i < j → j < S.1.length → rk (wrd S i) < rk (wrd S j)
  le : ∀ w, okW k w → rk (wrd S (numM rows S w)) ≤ rk w
end
end Go.Proofs.Ythnpflkpjimkfaa

/-
  BODIES OF FUNCTIONS OF THE PROGRAM AS SMALL OPERATIONS (written by gen.py; checked by the kernel against the program). Conditions: none.
-/
namespace Go.Proofs.Ythnpflkpjimkfaa
open Go.AM
open Go.Proofs.Try (prog)
set_option maxRecDepth 100000
set_option linter.all false
end Go.Proofs.Ythnpflkpjimkfaa

/-
  BODIES OF FUNCTIONS OF THE PROGRAM AS SMALL OPERATIONS (written by gen.py; checked by the kernel against the program). Conditions: none.
-/
namespace Go.Proofs.Ythnpflkpjimkfaa
open Go.AM
open Go.Proofs.Try (prog)
set_option maxRecDepth 100000
set_option linter.all false
namespace r07_Less
noncomputable section
variable (K : List Item) (s : St)
def b : Code := (Try.f39.body).getD .skip
theorem hf : prog.funcs[39]? = some Try.f39 := by kernel_rfl
def r0 := findReg b 0
def r1 := findReg b 1
theorem b_eq : den prog ann 39 (.code b :: K) s = den prog ann 39 (.code r0 :: .code r1 :: .code .ret :: K) s := den_flat hf (l := [r0, r1, .ret]) (by kernel_rfl) K s
theorem r0_eq : den prog ann 39 (.code r0 :: K) s = mreg prog ann 39 none [] none [] [qF 4 fun s => some (.bool false)] K s := (den_reg hf _ K s).trans (by kernel_rfl)
theorem r1_eq : den prog ann 39 (.code r1 :: K) s = mreg prog ann 39 none [] none [] [qC 5 0,qA 6 lenStr 5,qC 7 1,qA 8 lenStr 7,qB 9 (binA prog .lss 3) 6 8,qC 10 9,⟨some 11, some (10, false), .v fun s => some (s.get 0)⟩,⟨some 12, some (10, false), .v fun s => lenStr (s.get 11)⟩,⟨some 13, some (10, false), .v fun s => some (s.get 1)⟩,⟨some 14, some (10, false), .v fun s => lenStr (s.get 13)⟩,⟨some 15, some (10, false), .v fun s => binA prog .eql 3 (s.get 12) (s.get 14)⟩,⟨some 16, some (10, false), .v fun s => some (s.get 15)⟩,⟨some 17, some (16, true), .v fun s => some (s.get 0)⟩,⟨some 18, some (16, true), .v fun s => some (s.get 1)⟩,⟨some 19, some (16, true), .v fun s => binA prog .lss 9 (s.get 17) (s.get 18)⟩,⟨some 20, some (10, false), .v fun s => pickA (s.get 16) (s.get 19) (.bool false)⟩,qF 21 fun s => pickA (s.get 10) (.bool true) (s.get 20),qC 4 21] K s := (den_reg hf _ K s).trans (by kernel_rfl)
theorem ret_eq : den prog ann 39 (.code .ret :: K) s = finM true [fun s => some (s.get 4)] s := (den_ret hf K s).trans (by kernel_rfl)
theorem nil_eq (s : St) : den prog ann 39 [] s = finM true [fun s => some (s.get 4)] s := (den_nil hf s).trans (by kernel_rfl)
theorem inBlock_eq (id : Nat) (K : List Item) (s : St) : den prog ann 39 (.inBlock id :: K) s = den prog ann 39 K s := den_inBlock hf id K s
theorem exit_eq (id : Nat) (K : List Item) (s : St) : den prog ann 39 (.code (.exit id) :: K) s = exitV prog ann 39 (exitTo id K) s := den_exitV hf id K s
theorem call_eq (v0 v1 : AV) (m : Mem) (h : closedL [v0, v1] = true) : denC prog ann 39 [v0, v1] m = (den prog ann 39 [.code b] ⟨[(0, v0), (1, v1)], 22, Mem.empty⟩).bind fun r => some (r.1, m) := (denC_pure hf (b := b) (by kernel_rfl) (by kernel_rfl) (by kernel_rfl) h m).trans (by kernel_rfl)
theorem pure_eq : (ann 39).pure = true := by kernel_rfl
attribute [simp] b_eq r0_eq r1_eq ret_eq nil_eq inBlock_eq exit_eq pure_eq
end
end r07_Less
end Go.Proofs.Ythnpflkpjimkfaa

/-
  WORDS OUT OF NUMBERS; THE ORDER OF WORDS: what the laws' functions return. Conditions: none.
-/
namespace Go.Proofs.Ythnpflkpjimkfaa
open Go.AM
open Go.Proofs.Try (prog)
set_option linter.all false
set_option maxRecDepth 100000
set_option maxHeartbeats 8000000
def lessW (x y : List UInt8) : Bool := decide (x.length < y.length) || (decide (x.length = y.length) && Op.bytesLess x y)
theorem less_spec (x y : List UInt8) (hx : x.length ≤ 1000000) (hy : y.length ≤ 1000000) (m : Mem) : denC prog ann 39 [.str x, .str y] m = some (.bool (lessW x y), m) := by
  rw [r07_Less.call_eq _ _ _ (by simp)]
  unfold lessW
  by_cases q : x.length < y.length
  · simp [q]
    done
  · by_cases q2 : x.length = y.length
    · simp [q2]
      done
    · have q2' : ¬ ((x.length : Nat) : Int) = (y.length : Nat) := by omega
      simp [q, q2, q2']
      done
theorem lessW_rk {x y : List UInt8} (h : lessW x y = true) : rk x < rk y := by
  unfold lessW at h
  rw [Bool.or_eq_true, Bool.and_eq_true, decide_eq_true_eq, decide_eq_true_eq] at h
  rcases h with h | ⟨h1, h2⟩
  · exact rk_len _ x y rfl h
  · exact rk_less x y h1 h2
end Go.Proofs.Ythnpflkpjimkfaa
