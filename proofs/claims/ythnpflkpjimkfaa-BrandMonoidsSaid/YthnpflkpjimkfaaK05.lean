/-
  THE SMALLEST FORM: what the specification returns. Conditions: none.
-/
import Derived.Test.YthnpflkpjimkfaaK04
import Derived.Test.YthnpflkpjimkfaaKAmH
set_option linter.all false
namespace Go.Proofs.Ythnpflkpjimkfaa
open Go.AM
open Go.Proofs.Try (prog)
set_option linter.all false
set_option maxRecDepth 100000
set_option maxHeartbeats 8000000

noncomputable def KU4 : List Item := [.code r07_Smallest.r26, .code .ret]
noncomputable def KU6 : List Item := .code r07_Smallest.r25 :: .inBlock 5 :: .code r07_Smallest.r19 :: .inLoop r07_Smallest.l4 :: .inBlock 4 :: KU4
theorem rs_r {nv gv : AV} {ps : List AV} {rows : List (List Int)} {good : List Bool} {k : Nat} (hn : IsRows nv ps rows) (v : VB rows good k) {al : Nat → Nat → Bool} {R F : List Nat} (hRc : ∀ s ∈ R, ∀ a, a < k → nx rows s a ∈ R) {Na : List Int} (hNl : Na.length = rows.length) (hNa : ∀ s ∈ R, nth Na s = idxA al F s) {x2 x10 : AV} {N f kk q : Nat} (hkk : kk < F.length) (hF6 : F.length ≤ 6) (hq : F[kk]? = some q) (hqn : q < rows.length) (hqR : q ∈ R) {Rr : Nat} (h1N : Rr ≠ N) (h1f : Rr ≠ f) {r : Res} :
    ∀ (c a : Nat) (h : Nat → Option AObj) (nx0 : Nat), a + c = k → h N = some (.cells (ints Na)) → h f = some (.cells (F.map encS)) → h Rr = some (.cells (rowV al rows F q a)) → Rr < nx0 →
    (∀ h' nx', h' Rr = some (.cells (rowV al rows F q k)) → nx0 ≤ nx' → (∀ y, y ≠ Rr → h' y = h y) →
      r07_Smallest.L6 (.fptr [nv, gv]) x2 (.sl N 1 0 rows.length rows.length) (.sl f 1 0 F.length F.length) x10 (.int .i64 kk) (.sl Rr 1 0 k k) (.int .i64 k) ⟨h', nx'⟩ KU6 = some r) →
    r07_Smallest.L6 (.fptr [nv, gv]) x2 (.sl N 1 0 rows.length rows.length) (.sl f 1 0 F.length F.length) x10 (.int .i64 kk) (.sl Rr 1 0 a a) (.int .i64 a) ⟨h, nx0⟩ KU6 = some r := by
  intro c
  have n6 := v.n6
  have k3 := v.k3
  have i0 := hn.idx (i := 0) v.n1 .i64
  have j0 := hn.head (i := 0) v.n1
  have iw0 := hn.row 0 v.n1
  have r0 := v.rl 0 v.n1
  simp only [Int.ofNat_zero, Int.cast_ofNat_Int, List.drop_zero] at i0 j0
  have hxe := (List.getElem?_eq_some_iff.1 hq).2
  induction c with
  | zero =>
    intro a h nx0 h1 hN hf hR hR0 hk
    have e : a = k := by omega
    subst e
    exact hk h nx0 hR (Nat.le_refl _) (fun _ _ => rfl)
  | succ c ih =>
    intro a h nx0 h1 hN hf hR hR0 hk
    have ha : a < k := by omega
    have hwa : IntKind.wrap .i64 ((a : Int) + 1) = (a : Int) + 1 := wrap_id (by omega) (by omega)
    obtain ⟨c1, c2⟩ := nx_lt v hqn ha
    have b1 := v.rl q hqn
    have iw1 := hn.row q hqn
    have d1 := iw1.idx (i := a) (by omega) .i64
    have e1 := ints_head (l := cth rows q) (i := a) (by omega)
    rw [c2] at e1
    have hval := hNa (nx rows q a) (hRc q hqR a ha)
    have hg : Na[nx rows q a]'(by omega) = ((idxA al F (nx rows q a) : Nat) : Int) := by rw [← hval]; exact nth_get (by omega)
    have hlen : (rowV al rows F q a).length = a := by simp [rowV]
    have hlen1 : (rowV al rows F q (a + 1)).length = a + 1 := by simp [rowV]
    have erow : rowV al rows F q a ++ [.int .i64 (idxA al F (nx rows q a) : Nat)] = rowV al rows F q (a + 1) := by simp [rowV, List.range_succ]
    have st := ih (a + 1) (upd h Rr (some (.cells (rowV al rows F q (a + 1))))) (nx0 + 18) (by omega) (by rw [updNe h1N.symm]; exact hN) (by rw [updNe h1f.symm]; exact hf) (by simp) (by omega) (fun h' nx' g1 g2 g3 => hk h' nx' g1 (by omega) (fun y hy => by rw [g3 y hy, updNe hy]))
    simp only [Int.natCast_add, Int.cast_ofNat_Int] at st
    rw [r07_Smallest.L6_eq]
    simp [ha, i0, j0, iw0.len, r0, hkk, hf, hxe, encS, hn.idx hqn, hn.head hqn, d1, e1, c1, hN, hNl, hval, hR, hlen, show a ≤ 4611686018427387903 by omega, show (a + 1) * 8 ≤ 70368744177664 by omega, erow, hlen1, hwa, st]
    done
theorem frz_122_126 (s : St) : frz1 s 3122126 = bif ap (objId (s.get 122)) (objId (s.get 126)) then some s else none := by rw [← ap_eq]; rfl
theorem frz_124 (s : St) : frz1 s 2000124 = bif nsl (s.get 124) then some s else none := rfl
theorem frz_122_132 (s : St) : frz1 s 3122132 = bif ap (objId (s.get 122)) (objId (s.get 132)) then some s else none := by rw [← ap_eq]; rfl
theorem rs_w {nv gv : AV} {ps : List AV} {rows : List (List Int)} {good : List Bool} {k : Nat} (hn : IsRows nv ps rows) (hg : IsB gv good) (v : VB rows good k) {al : Nat → Nat → Bool} {R F : List Nat} (hRc : ∀ s ∈ R, ∀ a, a < k → nx rows s a ∈ R) {Na : List Int} (hNl : Na.length = rows.length) (hNa : ∀ s ∈ R, nth Na s = idxA al F s) (hF6 : F.length ≤ 6) (hFR : ∀ s ∈ F, s ∈ R ∧ s < rows.length) (hpos : 0 < F.length)
    {N f o z0 lo : Nat} (hNlo : N < lo) (hflo : f < lo) (ho : o < lo) (hz : z0 < lo) (hoN : o ≠ N) (hof : o ≠ f) (hoz : o ≠ z0) :
    ∀ (c kk : Nat) (h : Nat → Option AObj) (nx0 : Nat) (a g : AV), kk + c = F.length → h N = some (.cells (ints Na)) → h f = some (.cells (F.map encS)) → lo ≤ nx0 → Ox h o z0 a g (outR al rows k F kk) (outG good F kk) lo nx0 →
    r07_Smallest.L4 (.fptr [nv, gv]) (.ptr z0 0 2) (.sl N 1 0 rows.length rows.length) (.sl f 1 0 F.length F.length) (.ptr o 0 2) (.int .i64 kk) ⟨h, nx0⟩ KU4 = some (resV al rows good k F, Mem.empty) := by
  intro c
  have n6 := v.n6
  have k3 := v.k3
  have i0 := hn.idx (i := 0) v.n1 .i64
  have j0 := hn.head (i := 0) v.n1
  have iw0 := hn.row 0 v.n1
  have r0 := v.rl 0 v.n1
  simp only [Int.ofNat_zero, Int.cast_ofNat_Int, List.drop_zero] at i0 j0
  induction c with
  | zero =>
    intro kk h nx0 a g h1 hN hf hlo O
    have e : kk = F.length := by omega
    subst e
    have e1 : F.take F.length = F := List.take_length
    have hne : F ≠ [] := by intro e; rw [e] at hpos; simp at hpos
    have na : Nl (upd h z0 (some (AObj.cells [a, g]))) a (outR al rows k F F.length) lo nx0 := O.na.fr (fun y y1 _ _ => updNe (by omega)) (Nat.le_refl _)
    have ng : Nl (upd h z0 (some (AObj.cells [a, g]))) g (outG good F F.length) lo nx0 := O.ng.fr (fun y y1 _ _ => updNe (by omega)) (Nat.le_refl _)
    have da := na.deep 4 (fun x hx => by
      simp only [outR, List.mem_map] at hx
      obtain ⟨q, _, rfl⟩ := hx
      simp [AM.deep, rowF, rowV_closed]) (na.nn (by simp [outR, hne]))
    have dg := ng.deep 4 (fun x hx => by
      simp only [outG, List.mem_map] at hx
      obtain ⟨q, _, rfl⟩ := hx
      simp [AM.deep]) (ng.nn (by simp [outG, hne]))
    rw [r07_Smallest.L4_eq]
    simp [O.o, O.z, O.na.one, O.ng.one, KU4]
    simp [da, dg, resV, outR, outG]
    done
  | succ c ih =>
    intro kk h nx0 a g h1 hN hf hlo O
    have hkk : kk < F.length := by omega
    have hq := List.getElem?_eq_getElem hkk
    generalize F[kk] = q at hq
    obtain ⟨hqR, hqn⟩ := hFR q (List.mem_of_getElem? hq)
    have htk1 : F.take (kk + 1) = F.take kk ++ [q] := by rw [List.take_add_one, hq]; rfl
    have eR : outR al rows k F kk ++ [rowF al rows k F q] = outR al rows k F (kk + 1) := by
      rw [outR, outR, htk1, List.map_append]; rfl
    have eG : outG good F kk ++ [.bool (bnth good q)] = outG good F (kk + 1) := by
      rw [outG, outG, htk1, List.map_append]; rfl
    have oa := fun y e => (O.na.oid (y := y) e)
    have og := fun y e => (O.ng.oid (y := y) e)
    have st := rs_r (gv := gv) (x2 := .ptr z0 0 2) (x10 := .ptr o 0 2) (kk := kk) (q := q) (N := N) (f := f) hn v hRc hNl hNa hkk hF6 hq hqn hqR (Rr := nx0) (by omega) (by omega) (r := (resV al rows good k F, Mem.empty)) k 0 (upd h nx0 (some (.cells []))) (nx0 + 1) (by omega) (by rw [updNe (by omega)]; exact hN) (by rw [updNe (by omega)]; exact hf) (by simp [rowV]) (by omega) (fun h' nx' w1 hnx' hfr0 => by
      have hfr : ∀ y, y ≠ nx0 → h' y = h y := fun y hy => by rw [hfr0 y hy, updNe hy]
      have rl : (rowV al rows F q k).length = k := by simp [rowV]
      have na1 : Nl (upd h' nx0 none) a (outR al rows k F kk) lo nx0 := O.na.fr (fun y y1 y2 _ => by rw [updNe (by omega), hfr y (by omega)]) (Nat.le_refl _)
      have lR : (outR al rows k F kk).length ≤ 6 := by simp [outR]; omega
      have lG : (outG good F kk).length ≤ 6 := by simp [outG]; omega
      obtain ⟨v1, h2, n2, g1, g2, g3, g4, g5, g6, g7⟩ := na1.app (nx := nx' + 4) (by' := 24) (by omega) (by omega) (by simp; omega) (rowF al rows k F q)
      have hv1 : ∀ y, objId v1 = some y → lo ≤ y ∧ (y < nx0 ∨ y = nx' + 4) := fun y e => by
        rcases g5 y e with q | q
        · have := oa y q; omega
        · omega
      have ng1 : Nl h2 g (outG good F kk) lo nx0 := O.ng.fr (fun y y1 y2 ye => by
        rw [g6 y (fun e => by
          rcases g5 y e with q | q
          · exact O.dj y q ye
          · omega), updNe (by omega), hfr y (by omega)]) (Nat.le_refl _)
      obtain ⟨v2, h3, n3, u1, u2, u3, u4, u5, u6, u7⟩ := ng1.app (nx := nx' + 16) (by' := 1) (by omega) (by omega) (by simp; omega) (.bool (bnth good q))
      have hv2 : ∀ y, objId v2 = some y → lo ≤ y ∧ (objId g = some y ∨ y = nx' + 16) := fun y e => by
        rcases u5 y e with q | q
        · have := og y q; exact ⟨this.1, .inl q⟩
        · exact ⟨by omega, .inr q⟩
      have low : ∀ y, y < lo → h3 y = h y := fun y hy => by
        rw [u6 y (fun e => by have := hv2 y e; omega), g6 y (fun e => by have := hv1 y e; omega), updNe (by omega), hfr y (by omega)]
      have lo2 : ∀ y, y < lo → h2 y = h y := fun y hy => by
        rw [g6 y (fun e => by have := hv1 y e; omega), updNe (by omega), hfr y (by omega)]
      have ho' : h' o = some (.cells [a, g]) := by rw [hfr o (by omega)]; exact O.o
      have ho2 : h2 o = some (.cells [a, g]) := by rw [lo2 o ho]; exact O.o
      have ho3 : h3 o = some (.cells [a, g]) := by rw [low o ho]; exact O.o
      have hf2 : h2 f = some (.cells (F.map encS)) := by rw [lo2 f hflo]; exact hf
      have a1 := ap_lt (z := o) (fun y e => (oa y e).1) ho
      have a3 := ap_lt (z := f) (fun y e => (oa y e).1) hflo
      have bq := bls_head (bs := good) (i := q) (by rw [v.gl]; exact hqn)
      have hwk : IntKind.wrap .i64 ((kk : Int) + 1) = (kk : Int) + 1 := wrap_id (by omega) (by omega)
      have fin4 : ∀ y, y < lo → y ≠ o → (upd h3 o (some (.cells [v1, v2]))) y = h y := fun y y1 y2 => by rw [updNe y2, low y y1]
      have st3 := ih (kk + 1) (upd h3 o (some (.cells [v1, v2]))) (nx' + 21) v1 v2 (by omega) (by rw [fin4 N hNlo hoN.symm]; exact hN) (by rw [fin4 f hflo hof.symm]; exact hf) (by omega)
        ⟨by simp, by rw [fin4 z0 hz hoz.symm]; exact O.z,
          by
            rw [← eR]
            exact g2.fr (fun y y1 y2 ye => by
              rw [updNe (by omega), u6 y (fun e => by
                rcases (hv2 y e).2 with q | q
                · rcases g5 y ye with w | w
                  · exact O.dj y w q
                  · have := og y q; omega
                · have := (hv1 y ye).2; omega)]) (by omega),
          by
            rw [← eG]
            exact u2.fr (fun y y1 y2 ye => by rw [updNe (by omega)]) (by omega),
          fun y e1 e2 => by
            rcases (hv2 y e2).2 with q | q
            · rcases g5 y e1 with w | w
              · exact O.dj y w q
              · have := og y q; omega
            · have := (hv1 y e1).2; omega⟩
      simp only [Int.natCast_add, Int.cast_ofNat_Int] at st3
      have hoR : (o == nx0) = false := beq_eq_false_iff_ne.2 (by omega)
      have rtk : (rowV al rows F q k).take k = rowV al rows F q k := List.take_of_length_le (by omega)
      have hxe := (List.getElem?_eq_some_iff.1 hq).2
      simp only [rowF] at g1
      rw [r07_Smallest.L6_eq]
      simp [KU6, i0, j0, iw0.len, r0, w1, rowV_closed, rl, rtk, hoR, ho', ho2, ho3, g1, O.na.one, O.ng.one, hf2, hkk, hxe, u1, (show v1.one = true from g2.one), (show v2.one = true from u2.one), frz_122_126, frz_124, frz_122_132, nsl, a1, a3, hwk, st3, encS, hg.idx (i := q) (by rw [v.gl]; exact hqn), bq, frzL]
      done)
    simp only [Int.ofNat_zero, Int.cast_ofNat_Int, KU6] at st
    rw [r07_Smallest.L4_eq]
    simp [hkk]
    exact st
theorem rsmallest_spec {nv gv : AV} {ps : List AV} {rows : List (List Int)} {good : List Bool} {k : Nat} (hn : IsRows nv ps rows) (hg : IsB gv good) (v : VB rows good k) (m : Mem) :
    denC prog ann 29 [.agg [nv, gv]] m = some (resV (alB rows good k) rows good k (repL rows good k), m) := by
  have n1 := v.n1
  have n6 := v.n6
  have h1 := fun m => reached_spec hn hg v m
  have h2 := fun m => alike_spec hn hg v m
  obtain ⟨L1, L2⟩ := lkR_end v
  obtain ⟨R1, R2⟩ := rch_ok v
  have R6 := few6 n6 R1.nd R1.all
  have hF6 : (repL rows good k).length ≤ 6 := by
    have := ded_len (al := alB rows good k) (rchS rows k).1 []
    have e : (repL rows good k).length ≤ 0 + (rchS rows k).1.length := this
    omega
  have hFR : ∀ s ∈ repL rows good k, s ∈ (rchS rows k).1 ∧ s < rows.length := fun s hs => ⟨ded_mem hs, R1.all s (ded_mem hs)⟩
  have hpos : 0 < (repL rows good k).length := by
    have h0 : 0 ∈ (rchS rows k).1 := by
      have hp : ∀ (f i : Nat) (S : List Nat × List (List UInt8)), 0 ∈ S.1 → 0 ∈ (bfsA (nx rows) extL k f i S).1 := by
        intro f
        induction f with
        | zero => intro i S h; exact h
        | succ f ih =>
          intro i S h
          rw [bfsA]
          split
          · rename_i x w _ _
            obtain ⟨p, _, e1, _⟩ := bIn_pre (nx rows) extL x w k 0 S
            exact ih _ _ (by rw [e1]; exact List.mem_append_left _ h)
          · exact h
      exact hp _ _ _ (by simp)
    have := ded_any (lik_alB v) (rchS rows k).1 R1.all 0 h0
    obtain ⟨u, hu, _⟩ := List.any_eq_true.1 this
    exact List.length_pos_of_mem hu
  have st := rs_o (x1 := .fptr [nv, gv]) (x2 := .ptr 0 0 2) n6 (lik_alB v) L1 L2 R1.nd R1.all (N := 1) (f := 2) (by omega) (r := (resV (alB rows good k) rows good k (repL rows good k), Mem.empty)) (rchS rows k).1.length 0 (upd (upd (upd Mem.empty.h 0 (some (AObj.cells [AV.nils, AV.nils]))) 1 (some (AObj.cells (List.replicate rows.length (AV.int IntKind.i64 0))))) 2 (some (.cells []))) 3 (List.replicate rows.length 0) (by omega) (by simp) (by simp [ints]) (by simp [ded]) (by omega) (by omega) (by simp) (fun h' nx' Na' g1 g2 g3 g4 g5 g6 => by
    have hz : h' 0 = some (.cells [.nils, .nils]) := by rw [g6 0 (by omega) (by omega)]; simp
    have st2 := rs_w (gv := gv) hn hg v (al := alB rows good k) (R := (rchS rows k).1) (F := repL rows good k) R2 (Na := Na') g1 g4 hF6 hFR hpos (N := 1) (f := 2) (o := nx') (z0 := 0) (lo := nx' + 1) (by omega) (by omega) (by omega) (by omega) (by omega) (by omega) (by omega) (repL rows good k).length 0 (upd h' nx' (some (.cells [.nils, .nils]))) (nx' + 1) .nils .nils (by omega) (by rw [updNe (by omega)]; exact g2) (by rw [updNe (by omega)]; exact g3) (by omega) ⟨by simp, by rw [updNe (by omega)]; exact hz, .nil, .nil, by simp [objId]⟩
    simp only [Int.ofNat_zero, Int.cast_ofNat_Int, KU4] at st2
    rw [r07_Smallest.L0_eq]
    simp [KT0]
    exact st2)
  rw [r07_Smallest.call_eq _ _ (by simp [hn.closed, hg.closed])]
  have e0 : ded (alB rows good k) ((rchS rows k).1.take 0) = [] := rfl
  rw [e0] at st
  simp only [Int.ofNat_zero, Int.cast_ofNat_Int, KT0, List.length_nil] at st
  simp [hn.one, hg.one, hn.closed, hg.closed, hn.len, h1, h2, rchV, show rows.length ≤ 4611686018427387904 by omega, show rows.length * 8 ≤ 70368744177664 by omega]
  rw [st]
  rfl
end Go.Proofs.Ythnpflkpjimkfaa

/-
  THE SAME BRAND: the test answers yes for the same; the smallest form is a brand. Conditions: none.
-/
namespace Go.Proofs.Ythnpflkpjimkfaa
open Go.AM
open Go.Proofs.Try (prog)
set_option linter.all false
set_option maxRecDepth 100000
set_option maxHeartbeats 8000000

/-! ### The smallest form as a brand -/
noncomputable def rowsM (rows : List (List Int)) (good : List Bool) (k : Nat) : List (List Int) := (repL rows good k).map fun q => (List.range k).map fun a => ((idxA (alB rows good k) (repL rows good k) (nx rows q a) : Nat) : Int)
noncomputable def goodM (rows : List (List Int)) (good : List Bool) (k : Nat) : List Bool := (repL rows good k).map (bnth good)
noncomputable def psM (rows : List (List Int)) (good : List Bool) (k : Nat) : List AV := (repL rows good k).map (rowF (alB rows good k) rows k (repL rows good k))
noncomputable def nvM (rows : List (List Int)) (good : List Bool) (k : Nat) : AV := .fsl false (repL rows good k).length (psM rows good k)
noncomputable def gvM (rows : List (List Int)) (good : List Bool) (k : Nat) : AV := .fsl false (repL rows good k).length (bls (goodM rows good k))
theorem resV_eq (rows : List (List Int)) (good : List Bool) (k : Nat) : resV (alB rows good k) rows good k (repL rows good k) = .agg [nvM rows good k, gvM rows good k] := by
  simp [resV, nvM, gvM, psM, goodM, bls]
theorem isB_M (rows : List (List Int)) (good : List Bool) (k : Nat) : IsB (gvM rows good k) (goodM rows good k) := .inr ⟨false, by simp [gvM, goodM]⟩
theorem isRows_M (rows : List (List Int)) (good : List Bool) (k : Nat) : IsRows (nvM rows good k) (psM rows good k) (rowsM rows good k) := by
  refine ⟨by simp [psM, rowsM], fun i hi => ?_, .inr ⟨false, by simp [nvM, rowsM]⟩⟩
  have hi' : i < (repL rows good k).length := by simpa [rowsM] using hi
  have e1 : pth (psM rows good k) i = rowF (alB rows good k) rows k (repL rows good k) (repL rows good k)[i] := by simp [pth, psM, hi', List.getD_eq_getElem?_getD]
  have e2 : cth (rowsM rows good k) i = (List.range k).map fun a => ((idxA (alB rows good k) (repL rows good k) (nx rows (repL rows good k)[i] a) : Nat) : Int) := by simp [cth, rowsM, hi', List.getD_eq_getElem?_getD]
  rw [e1, e2]
  exact .inr ⟨false, by simp [rowF, rowV, ints]⟩
theorem rowsM_len (rows : List (List Int)) (good : List Bool) (k : Nat) : (rowsM rows good k).length = (repL rows good k).length := by simp [rowsM]
theorem repL_few {rows : List (List Int)} {good : List Bool} {k : Nat} (v : VB rows good k) : (repL rows good k).length ≤ rows.length ∧ 0 < (repL rows good k).length ∧ 0 ∈ (rchS rows k).1 := by
  obtain ⟨R1, R2⟩ := rch_ok v
  have hle : (repL rows good k).length ≤ rows.length := by
    have := ded_len (al := alB rows good k) (rchS rows k).1 []
    have e : (repL rows good k).length ≤ 0 + (rchS rows k).1.length := this
    have := nodup_sub R1.nd (L := List.range rows.length) fun x hx => List.mem_range.2 (R1.all x hx)
    simp at this
    omega
  have h0 : 0 ∈ (rchS rows k).1 := by
    have hp : ∀ (f i : Nat) (S : List Nat × List (List UInt8)), 0 ∈ S.1 → 0 ∈ (bfsA (nx rows) extL k f i S).1 := by
      intro f
      induction f with
      | zero => intro i S h; exact h
      | succ f ih =>
        intro i S h
        rw [bfsA]
        split
        · rename_i x w _ _
          obtain ⟨p, _, e1, _⟩ := bIn_pre (nx rows) extL x w k 0 S
          exact ih _ _ (by rw [e1]; exact List.mem_append_left _ h)
        · exact h
    exact hp _ _ _ (by simp)
  have := ded_any (lik_alB v) (rchS rows k).1 R1.all 0 h0
  obtain ⟨u, hu, _⟩ := List.any_eq_true.1 this
  exact ⟨hle, List.length_pos_of_mem hu, h0⟩
/-- The smallest form is a valid brand. -/
theorem VB_M {rows : List (List Int)} {good : List Bool} {k : Nat} (v : VB rows good k) : VB (rowsM rows good k) (goodM rows good k) k := by
  obtain ⟨h1, h2, h3⟩ := repL_few v
  obtain ⟨R1, R2⟩ := rch_ok v
  have n6 := v.n6
  have row : ∀ i (hi : i < (repL rows good k).length), cth (rowsM rows good k) i = (List.range k).map fun a => ((idxA (alB rows good k) (repL rows good k) (nx rows (repL rows good k)[i] a) : Nat) : Int) := fun i hi => by simp [cth, rowsM, hi, List.getD_eq_getElem?_getD]
  refine ⟨by rw [rowsM_len]; omega, by rw [rowsM_len]; omega, by simp [goodM, rowsM], v.k1, v.k3, fun i hi => ?_, fun i j hi hj => ?_⟩
  · rw [rowsM_len] at hi
    rw [row i hi]; simp
  · rw [rowsM_len] at hi
    rw [row i hi, rowsM_len]
    have hm : (repL rows good k)[i] ∈ (rchS rows k).1 := ded_mem (List.getElem_mem hi)
    have := idxA_lt (ded_any (lik_alB v) (rchS rows k).1 R1.all _ (R2 _ hm j hj))
    have e : nth ((List.range k).map fun a => ((idxA (alB rows good k) (repL rows good k) (nx rows (repL rows good k)[i] a) : Nat) : Int)) j = ((idxA (alB rows good k) (repL rows good k) (nx rows (repL rows good k)[i] j) : Nat) : Int) := by simp [nth, hj, List.getD_eq_getElem?_getD]
    rw [e]
    have this : idxA (alB rows good k) (repL rows good k) (nx rows (repL rows good k)[i] j) < (repL rows good k).length := this
    omega
end Go.Proofs.Ythnpflkpjimkfaa

/-
  BODIES OF FUNCTIONS OF THE PROGRAM AS SMALL OPERATIONS (written by gen.py; checked by the kernel against the program). Conditions: none.
-/
namespace Go.Proofs.Ythnpflkpjimkfaa
open Go.AM
open Go.Proofs.Try (prog)
set_option maxRecDepth 100000
set_option linter.all false

namespace brand_made
/-- pommel/brand.made -/
noncomputable def b : Code := (Try.f70.body).getD .skip
theorem hf : prog.funcs[70]? = some Try.f70 := by kernel_rfl
noncomputable def r0 : Code := findReg b 0
noncomputable def r1 : Code := findReg b 1
noncomputable def i0 : Code := findCond b 0
noncomputable def i0t : Code := thenOf i0
noncomputable def i0e : Code := elseOf i0
noncomputable def r2 : Code := findReg b 2
noncomputable def r3 : Code := findReg b 3
noncomputable def r4 : Code := findReg b 4
noncomputable def r5 : Code := findReg b 5
noncomputable def k0 : Code := findBlk b 0
noncomputable def l0 : Code := loopOf k0
noncomputable def L0 (x4 x5 : AV) (m : Mem) (K : List Item) : Option Res := den prog ann 70 (.code l0 :: .inLoop l0 :: .inBlock 0 :: K) ⟨[(4, x4), (5, x5)], 101, m⟩
noncomputable def r6 : Code := findReg b 6
noncomputable def i1 : Code := findCond b 1
noncomputable def i1t : Code := thenOf i1
noncomputable def i1e : Code := elseOf i1
noncomputable def k1 : Code := findBlk b 1
noncomputable def r8 : Code := findReg b 8
noncomputable def k2 : Code := findBlk b 2
noncomputable def l2 : Code := loopOf k2
noncomputable def L2 (x4 x5 x44 x45 : AV) (m : Mem) (K : List Item) : Option Res := den prog ann 70 (.code l2 :: .inLoop l2 :: .inBlock 2 :: K) ⟨[(4, x4), (5, x5), (44, x44), (45, x45)], 101, m⟩
noncomputable def r9 : Code := findReg b 9
noncomputable def i2 : Code := findCond b 2
noncomputable def i2t : Code := thenOf i2
noncomputable def i2e : Code := elseOf i2
noncomputable def k3 : Code := findBlk b 3
noncomputable def r10 : Code := findReg b 10
noncomputable def r11 : Code := findReg b 11
noncomputable def r12 : Code := findReg b 12
noncomputable def r13 : Code := findReg b 13
noncomputable def r14 : Code := findReg b 14
noncomputable def i3 : Code := findCond b 3
noncomputable def i3t : Code := thenOf i3
noncomputable def i3e : Code := elseOf i3
noncomputable def r15 : Code := findReg b 15
noncomputable def i4 : Code := findCond b 4
noncomputable def i4t : Code := thenOf i4
noncomputable def i4e : Code := elseOf i4
noncomputable def r16 : Code := findReg b 16
noncomputable def r17 : Code := findReg b 17
noncomputable def r18 : Code := findReg b 18
noncomputable def r19 : Code := findReg b 19
noncomputable def r7 : Code := findReg b 7
noncomputable def r20 : Code := findReg b 20
theorem b_eq (K : List Item) (s : St) : den prog ann 70 (.code b :: K) s = den prog ann 70 (.code r0 :: .code r1 :: .code i0 :: .code r3 :: .code r4 :: .code r5 :: .code k0 :: .code r20 :: .code .ret :: K) s := den_flat hf (l := [r0, r1, i0, r3, r4, r5, k0, r20, .ret]) (by kernel_rfl) K s
theorem r0_eq (K : List Item) (s : St) : den prog ann 70 (.code r0 :: K) s = mreg prog ann 70 none [] none [] [
    ⟨some 1, none, .v fun s => frozenPtr (s.get 0)⟩,
    ⟨some 2, none, .v fun s => some (.nilp)⟩,
    ⟨some 3, none, .v fun s => some (.int .i64 0)⟩] K s := (den_reg hf _ K s).trans (by kernel_rfl)
theorem r1_eq (K : List Item) (s : St) : den prog ann 70 (.code r1 :: K) s = mreg prog ann 70 none [] none [] [
    ⟨some 11, none, .v fun s => loadF true 2 (s.get 1)⟩,
    ⟨some 12, none, .c 0 (fun s => (.fn 55 [] [])) fun s => [(s.get 11)]⟩,
    ⟨some 13, none, .v fun s => unA .not (s.get 12)⟩] K s := (den_reg hf _ K s).trans (by kernel_rfl)
theorem i0_eq (K : List Item) (s : St) : den prog ann 70 (.code i0 :: K) s = ifV prog ann 70 13 i0t i0e K s (s.get 13) := den_if hf (by kernel_rfl) K s
theorem i0t_eq (K : List Item) (s : St) : den prog ann 70 (.code i0t :: K) s = den prog ann 70 (.code r2 :: .code .ret :: K) s := den_flat hf (l := [r2, .ret]) (by kernel_rfl) K s
theorem r2_eq (K : List Item) (s : St) : den prog ann 70 (.code r2 :: K) s = mreg prog ann 70 none [] none [] [
    ⟨some 2, none, .v fun s => some (.nilp)⟩,
    ⟨some 3, none, .v fun s => some (.int .i64 1)⟩] K s := (den_reg hf _ K s).trans (by kernel_rfl)
theorem i0e_eq (K : List Item) (s : St) : den prog ann 70 (.code i0e :: K) s = den prog ann 70 (K) s := den_flat hf (l := []) (by kernel_rfl) K s
theorem r3_eq (K : List Item) (s : St) : den prog ann 70 (.code r3 :: K) s = mreg prog ann 70 none [] none [] [
    ⟨some 14, none, .v fun s => loadF true 2 (s.get 1)⟩,
    ⟨some 15, none, .c 0 (fun s => (.fn 56 [] [])) fun s => [(s.get 14)]⟩,
    ⟨some 16, none, .v fun s => bslF 1 (bslA 1 1 [.str []] [(0, (.str []))])⟩,
    ⟨some 17, none, .w false none fun s => some (.map s.m.nx, s.m.new (.map 0 [] []))⟩,
    ⟨some 18, none, .v fun s => bldA (plc [(0, 2), (2, 1), (3, 1)]) [.nils, .nils, .nils, .nilm] [(0, (s.get 15)), (1, (s.get 16)), (2, (s.get 17))]⟩,
    ⟨some 19, none, .w false none fun s => newPtr s.m (AV.cells (s.get 18))⟩,
    ⟨some 4, none, .v fun s => some (s.get 19)⟩] K s := (den_reg hf _ K s).trans (by kernel_rfl)
theorem r4_draw : drawOk (fun g => (ann g).pure) (modeOf (ann 70) (idOf r4)) (frzOf (ann 70) (idOf r4)) (opsOf r4) = true := drawOk_of (an := [0, 1, 3, 7, 0, 0, 32, 112, 255]) (by kernel_rfl) (by kernel_rfl)
theorem r4_eq (K : List Item) (s : St) : den prog ann 70 (.code r4 :: K) s = mreg prog ann 70 none [] (some 9) [] [
    ⟨some 20, none, .v fun s => some (s.get 4)⟩,
    ⟨some 21, none, .v fun s => nilA (s.get 20)⟩,
    ⟨some 22, none, .v fun s => fieldA 3 (s.get 21)⟩,
    ⟨some 23, none, .v fun s => loadA false 1 s.m (s.get 22)⟩,
    ⟨some 24, none, .v fun s => some (s.get 4)⟩,
    ⟨some 25, none, .v fun s => bldA (plc []) [] []⟩,
    ⟨some 26, none, .v fun s => some (.iface 142 (s.get 25))⟩,
    ⟨some 27, none, .c 0 (fun s => (.fn 87 [] [])) fun s => [(s.get 24), (s.get 26)]⟩,
    ⟨none, none, .w false (some 8) fun s => updM prog s.m 139 (s.get 23) (s.get 27) (.int .i64 0)⟩] K s := (den_regD hf r4_draw K s).trans (by kernel_rfl)
theorem r5_eq (K : List Item) (s : St) : den prog ann 70 (.code r5 :: K) s = mreg prog ann 70 none [] none [] [
    ⟨some 5, none, .v fun s => some (.int .i64 0)⟩] K s := (den_reg hf _ K s).trans (by kernel_rfl)
theorem k0_eq (K : List Item) (t : List (Nat × AV)) (m : Mem) : den prog ann 70 (.code k0 :: K) ⟨t, 101, m⟩ = L0 (get t 4) (get t 5) m K := den_loop_enter hf (b := l0) (id := 6) (l := [4, 5]) (by kernel_rfl) (by kernel_rfl) (by kernel_rfl) K _
theorem l0_eq (K : List Item) (t : List (Nat × AV)) (m : Mem) : den prog ann 70 (.inLoop l0 :: .inBlock 0 :: K) ⟨t, 101, m⟩ = L0 (get t 4) (get t 5) m K := den_loop_again hf (id := 6) (l := [4, 5]) (by kernel_rfl) (by kernel_rfl) (.inBlock 0 :: K) _
theorem L0_eq (x4 x5 : AV) (m : Mem) (K : List Item) : L0 x4 x5 m K = den prog ann 70 (.code r6 :: .code i1 :: .code k1 :: .code r7 :: .inLoop l0 :: .inBlock 0 :: K) ⟨[(4, x4), (5, x5)], 101, m⟩ := den_flat hf (l := [r6, i1, k1, r7]) (by kernel_rfl) _ _
theorem r6_eq (K : List Item) (s : St) : den prog ann 70 (.code r6 :: K) s = mreg prog ann 70 (some [4, 5]) [] none [] [
    ⟨some 28, none, .v fun s => some (s.get 5)⟩,
    ⟨some 29, none, .v fun s => some (s.get 4)⟩,
    ⟨some 30, none, .v fun s => nilA (s.get 29)⟩,
    ⟨some 31, none, .v fun s => fieldA 2 (s.get 30)⟩,
    ⟨some 32, none, .v fun s => loadA false 1 s.m (s.get 31)⟩,
    ⟨some 33, none, .v fun s => lenSl (s.get 32)⟩,
    ⟨some 34, none, .v fun s => binA prog .lss 3 (s.get 28) (s.get 33)⟩] K s := (den_reg hf _ K s).trans (by kernel_rfl)
theorem i1_eq (K : List Item) (s : St) : den prog ann 70 (.code i1 :: K) s = ifV prog ann 70 34 i1t i1e K s (s.get 34) := den_if hf (by kernel_rfl) K s
theorem i1t_eq (K : List Item) (s : St) : den prog ann 70 (.code i1t :: K) s = den prog ann 70 (K) s := den_flat hf (l := []) (by kernel_rfl) K s
theorem i1e_eq (K : List Item) (s : St) : den prog ann 70 (.code i1e :: K) s = den prog ann 70 (.code (.exit 0) :: K) s := den_flat hf (l := [(.exit 0)]) (by kernel_rfl) K s
theorem k1_eq (K : List Item) (s : St) : den prog ann 70 (.code k1 :: K) s = den prog ann 70 (.code r8 :: .code k2 :: .inBlock 1 :: K) s := den_blk hf (b := blkOf k1) (l := [r8, k2]) (by kernel_rfl) (by kernel_rfl) K s
theorem r8_eq (K : List Item) (s : St) : den prog ann 70 (.code r8 :: K) s = mreg prog ann 70 none [] none [] [
    ⟨some 37, none, .v fun s => some (s.get 4)⟩,
    ⟨some 38, none, .v fun s => nilA (s.get 37)⟩,
    ⟨some 39, none, .v fun s => fieldA 0 (s.get 38)⟩,
    ⟨some 40, none, .v fun s => fieldA 0 (s.get 39)⟩,
    ⟨some 41, none, .v fun s => loadA false 1 s.m (s.get 40)⟩,
    ⟨some 42, none, .v fun s => idxSl 1 (s.get 41) (.int .i64 0)⟩,
    ⟨some 43, none, .v fun s => loadA false 1 s.m (s.get 42)⟩,
    ⟨some 44, none, .v fun s => lenSl (s.get 43)⟩,
    ⟨some 45, none, .v fun s => some (.int .i64 0)⟩] K s := (den_reg hf _ K s).trans (by kernel_rfl)
theorem k2_eq (K : List Item) (t : List (Nat × AV)) (m : Mem) : den prog ann 70 (.code k2 :: K) ⟨t, 101, m⟩ = L2 (get t 4) (get t 5) (get t 44) (get t 45) m K := den_loop_enter hf (b := l2) (id := 9) (l := [4, 5, 44, 45]) (by kernel_rfl) (by kernel_rfl) (by kernel_rfl) K _
theorem l2_eq (K : List Item) (t : List (Nat × AV)) (m : Mem) : den prog ann 70 (.inLoop l2 :: .inBlock 2 :: K) ⟨t, 101, m⟩ = L2 (get t 4) (get t 5) (get t 44) (get t 45) m K := den_loop_again hf (id := 9) (l := [4, 5, 44, 45]) (by kernel_rfl) (by kernel_rfl) (.inBlock 2 :: K) _
theorem L2_eq (x4 x5 x44 x45 : AV) (m : Mem) (K : List Item) : L2 x4 x5 x44 x45 m K = den prog ann 70 (.code r9 :: .code i2 :: .code k3 :: .code r19 :: .inLoop l2 :: .inBlock 2 :: K) ⟨[(4, x4), (5, x5), (44, x44), (45, x45)], 101, m⟩ := den_flat hf (l := [r9, i2, k3, r19]) (by kernel_rfl) _ _
theorem r9_eq (K : List Item) (s : St) : den prog ann 70 (.code r9 :: K) s = mreg prog ann 70 (some [4, 5, 44, 45]) [] none [] [
    ⟨some 46, none, .v fun s => binA prog .lss 3 (s.get 45) (s.get 44)⟩] K s := (den_reg hf _ K s).trans (by kernel_rfl)
theorem i2_eq (K : List Item) (s : St) : den prog ann 70 (.code i2 :: K) s = ifV prog ann 70 46 i2t i2e K s (s.get 46) := den_if hf (by kernel_rfl) K s
theorem i2t_eq (K : List Item) (s : St) : den prog ann 70 (.code i2t :: K) s = den prog ann 70 (K) s := den_flat hf (l := []) (by kernel_rfl) K s
theorem i2e_eq (K : List Item) (s : St) : den prog ann 70 (.code i2e :: K) s = den prog ann 70 (.code (.exit 2) :: K) s := den_flat hf (l := [(.exit 2)]) (by kernel_rfl) K s
theorem k3_eq (K : List Item) (s : St) : den prog ann 70 (.code k3 :: K) s = den prog ann 70 (.code r10 :: .code r11 :: .code r12 :: .code r13 :: .code r14 :: .code i3 :: .code r15 :: .code i4 :: .code r17 :: .code r18 :: .inBlock 3 :: K) s := den_blk hf (b := blkOf k3) (l := [r10, r11, r12, r13, r14, i3, r15, i4, r17, r18]) (by kernel_rfl) (by kernel_rfl) K s
theorem r10_eq (K : List Item) (s : St) : den prog ann 70 (.code r10 :: K) s = mreg prog ann 70 none [] none [] [
    ⟨some 47, none, .v fun s => some (s.get 45)⟩,
    ⟨some 6, none, .v fun s => some (s.get 47)⟩] K s := (den_reg hf _ K s).trans (by kernel_rfl)
theorem r11_draw : drawOk (fun g => (ann g).pure) (modeOf (ann 70) (idOf r11)) (frzOf (ann 70) (idOf r11)) (opsOf r11) = true := drawOk_of (an := [0, 1, 3, 7, 0, 31, 63, 0, 128, 511, 1023]) (by kernel_rfl) (by kernel_rfl)
theorem r11_eq (K : List Item) (s : St) : den prog ann 70 (.code r11 :: K) s = mreg prog ann 70 none [] (some 11) [] [
    ⟨some 48, none, .v fun s => some (s.get 4)⟩,
    ⟨some 49, none, .v fun s => nilA (s.get 48)⟩,
    ⟨some 50, none, .v fun s => fieldA 2 (s.get 49)⟩,
    ⟨some 51, none, .v fun s => loadA false 1 s.m (s.get 50)⟩,
    ⟨some 52, none, .v fun s => some (s.get 5)⟩,
    ⟨some 53, none, .v fun s => idxSl 1 (s.get 51) (s.get 52)⟩,
    ⟨some 54, none, .v fun s => loadA false 1 s.m (s.get 53)⟩,
    ⟨some 55, none, .v fun s => some (s.get 6)⟩,
    ⟨some 56, none, .c 0 (fun s => (.fn 59 [] [])) fun s => [(s.get 55)]⟩,
    ⟨some 57, none, .v fun s => binA prog .add 9 (s.get 54) (s.get 56)⟩,
    ⟨some 7, none, .v fun s => some (s.get 57)⟩] K s := (den_regD hf r11_draw K s).trans (by kernel_rfl)
theorem r12_eq (K : List Item) (s : St) : den prog ann 70 (.code r12 :: K) s = mreg prog ann 70 none [] none [8] [
    ⟨some 58, none, .v fun s => some (s.get 4)⟩,
    ⟨some 59, none, .v fun s => some (s.get 4)⟩,
    ⟨some 60, none, .v fun s => some (s.get 7)⟩,
    ⟨some 61, none, .c 0 (fun s => (.fn 88 [] [])) fun s => [(s.get 59), (s.get 60)]⟩,
    ⟨some 62, none, .c 0 (fun s => (.fn 87 [] [])) fun s => [(s.get 58), (s.get 61)]⟩,
    ⟨some 8, none, .w false none fun s => newPtr s.m [.int .i64 0, .int .i64 0, .int .i64 0, .int .i64 0, .int .i64 0, .int .i64 0]⟩,
    ⟨none, none, .w false none fun s => stA true 6 s.m (s.get 8) (s.get 62)⟩] K s := (den_reg hf _ K s).trans (by kernel_rfl)
theorem r13_draw : drawOk (fun g => (ann g).pure) (modeOf (ann 70) (idOf r13)) (frzOf (ann 70) (idOf r13)) (opsOf r13) = true := drawOk_of (an := [0, 1, 3, 7, 0, 31, 63, 127, 127, 255, 1023]) (by kernel_rfl) (by kernel_rfl)
theorem r13_eq (K : List Item) (s : St) : den prog ann 70 (.code r13 :: K) s = mreg prog ann 70 none [] (some 11) [] [
    ⟨some 64, none, .v fun s => some (s.get 4)⟩,
    ⟨some 65, none, .v fun s => nilA (s.get 64)⟩,
    ⟨some 66, none, .v fun s => fieldA 3 (s.get 65)⟩,
    ⟨some 67, none, .v fun s => loadA false 1 s.m (s.get 66)⟩,
    ⟨some 68, none, .v fun s => loadF true 6 (s.get 8)⟩,
    ⟨some 69, none, .v fun s => lookP prog s.m 139 (.int .i64 0) (s.get 67) (s.get 68) true⟩,
    ⟨some 63, none, .v fun s => some (s.get 69)⟩,
    ⟨some 70, none, .v fun s => extA (s.get 63) 0⟩,
    ⟨some 71, none, .v fun s => extA (s.get 63) 1⟩,
    ⟨some 9, none, .v fun s => some (s.get 70)⟩,
    ⟨some 10, none, .v fun s => some (s.get 71)⟩] K s := (den_regD hf r13_draw K s).trans (by kernel_rfl)
theorem r14_eq (K : List Item) (s : St) : den prog ann 70 (.code r14 :: K) s = mreg prog ann 70 none [] none [] [
    ⟨some 72, none, .v fun s => some (s.get 10)⟩] K s := (den_reg hf _ K s).trans (by kernel_rfl)
theorem i3_eq (K : List Item) (s : St) : den prog ann 70 (.code i3 :: K) s = ifV prog ann 70 72 i3t i3e K s (s.get 72) := den_if hf (by kernel_rfl) K s
theorem i3t_eq (K : List Item) (s : St) : den prog ann 70 (.code i3t :: K) s = den prog ann 70 (.code (.exit 3) :: K) s := den_flat hf (l := [(.exit 3)]) (by kernel_rfl) K s
theorem i3e_eq (K : List Item) (s : St) : den prog ann 70 (.code i3e :: K) s = den prog ann 70 (K) s := den_flat hf (l := []) (by kernel_rfl) K s
theorem r15_eq (K : List Item) (s : St) : den prog ann 70 (.code r15 :: K) s = mreg prog ann 70 none [] none [] [
    ⟨some 73, none, .v fun s => some (s.get 4)⟩,
    ⟨some 74, none, .v fun s => nilA (s.get 73)⟩,
    ⟨some 75, none, .v fun s => fieldA 2 (s.get 74)⟩,
    ⟨some 76, none, .v fun s => loadA false 1 s.m (s.get 75)⟩,
    ⟨some 77, none, .v fun s => lenSl (s.get 76)⟩,
    ⟨some 78, none, .v fun s => binA prog .eql 3 (s.get 77) (.int .i64 400)⟩] K s := (den_reg hf _ K s).trans (by kernel_rfl)
theorem i4_eq (K : List Item) (s : St) : den prog ann 70 (.code i4 :: K) s = ifV prog ann 70 78 i4t i4e K s (s.get 78) := den_if hf (by kernel_rfl) K s
theorem i4t_eq (K : List Item) (s : St) : den prog ann 70 (.code i4t :: K) s = den prog ann 70 (.code r16 :: .code .ret :: K) s := den_flat hf (l := [r16, .ret]) (by kernel_rfl) K s
theorem r16_eq (K : List Item) (s : St) : den prog ann 70 (.code r16 :: K) s = mreg prog ann 70 none [] none [] [
    ⟨some 2, none, .v fun s => some (.nilp)⟩,
    ⟨some 3, none, .v fun s => some (.int .i64 7)⟩] K s := (den_reg hf _ K s).trans (by kernel_rfl)
theorem i4e_eq (K : List Item) (s : St) : den prog ann 70 (.code i4e :: K) s = den prog ann 70 (K) s := den_flat hf (l := []) (by kernel_rfl) K s
theorem r17_draw : drawOk (fun g => (ann g).pure) (modeOf (ann 70) (idOf r17)) (frzOf (ann 70) (idOf r17)) (opsOf r17) = true := drawOk_of (an := [0, 1, 3, 7, 0, 0, 32, 96, 224, 480, 1023]) (by kernel_rfl) (by kernel_rfl)
theorem r17_eq (K : List Item) (s : St) : den prog ann 70 (.code r17 :: K) s = mreg prog ann 70 none [] (some 11) [] [
    ⟨some 79, none, .v fun s => some (s.get 4)⟩,
    ⟨some 80, none, .v fun s => nilA (s.get 79)⟩,
    ⟨some 81, none, .v fun s => fieldA 3 (s.get 80)⟩,
    ⟨some 82, none, .v fun s => loadA false 1 s.m (s.get 81)⟩,
    ⟨some 83, none, .v fun s => loadF true 6 (s.get 8)⟩,
    ⟨some 84, none, .v fun s => some (s.get 4)⟩,
    ⟨some 85, none, .v fun s => nilA (s.get 84)⟩,
    ⟨some 86, none, .v fun s => fieldA 2 (s.get 85)⟩,
    ⟨some 87, none, .v fun s => loadA false 1 s.m (s.get 86)⟩,
    ⟨some 88, none, .v fun s => lenSl (s.get 87)⟩,
    ⟨none, none, .w false (some 10) fun s => updM prog s.m 139 (s.get 82) (s.get 83) (s.get 88)⟩] K s := (den_regD hf r17_draw K s).trans (by kernel_rfl)
theorem r18_eq (K : List Item) (s : St) : den prog ann 70 (.code r18 :: K) s = mreg prog ann 70 none [] none [] [
    ⟨some 89, none, .v fun s => some (s.get 4)⟩,
    ⟨some 90, none, .v fun s => some (s.get 4)⟩,
    ⟨some 91, none, .v fun s => nilA (s.get 90)⟩,
    ⟨some 92, none, .v fun s => fieldA 2 (s.get 91)⟩,
    ⟨some 93, none, .v fun s => loadA false 1 s.m (s.get 92)⟩,
    ⟨some 94, none, .v fun s => some (s.get 7)⟩,
    ⟨some 95, none, .v fun s => bslF 1 (bslA 1 1 [.str []] [(0, (s.get 94))])⟩,
    ⟨some 96, none, .w false none fun s => appendA 1 16 s.m (s.get 93) (s.get 95)⟩,
    ⟨some 97, none, .v fun s => nilA (s.get 89)⟩,
    ⟨some 98, none, .v fun s => fieldA 2 (s.get 97)⟩,
    ⟨none, none, .w false none fun s => stA false 1 s.m (s.get 98) (s.get 96)⟩] K s := (den_reg hf _ K s).trans (by kernel_rfl)
theorem r19_eq (K : List Item) (s : St) : den prog ann 70 (.code r19 :: K) s = mreg prog ann 70 (some [4, 5, 44, 45]) [] none [] [
    ⟨some 99, none, .v fun s => binA prog .add 3 (s.get 45) (.int .i64 1)⟩,
    ⟨some 45, none, .v fun s => some (s.get 99)⟩] K s := (den_reg hf _ K s).trans (by kernel_rfl)
theorem r7_eq (K : List Item) (s : St) : den prog ann 70 (.code r7 :: K) s = mreg prog ann 70 (some [4, 5]) [] none [] [
    ⟨some 35, none, .v fun s => some (s.get 5)⟩,
    ⟨some 36, none, .v fun s => binA prog .add 3 (s.get 35) (.int .i64 1)⟩,
    ⟨some 5, none, .v fun s => some (s.get 36)⟩] K s := (den_reg hf _ K s).trans (by kernel_rfl)
theorem r20_eq (K : List Item) (s : St) : den prog ann 70 (.code r20 :: K) s = mreg prog ann 70 (some [4]) [] none [] [
    ⟨some 100, none, .v fun s => some (s.get 4)⟩,
    ⟨some 2, none, .v fun s => some (s.get 100)⟩,
    ⟨some 3, none, .v fun s => some (.int .i64 0)⟩] K s := (den_reg hf _ K s).trans (by kernel_rfl)
theorem ret_eq (K : List Item) (s : St) : den prog ann 70 (.code .ret :: K) s = finM true [fun s => some (s.get 2), fun s => some (s.get 3)] s := (den_ret hf K s).trans (by kernel_rfl)
theorem nil_eq (s : St) : den prog ann 70 [] s = finM true [fun s => some (s.get 2), fun s => some (s.get 3)] s := (den_nil hf s).trans (by kernel_rfl)
theorem inBlock_eq (id : Nat) (K : List Item) (s : St) : den prog ann 70 (.inBlock id :: K) s = den prog ann 70 K s := den_inBlock hf id K s
theorem exit_eq (id : Nat) (K : List Item) (s : St) : den prog ann 70 (.code (.exit id) :: K) s = exitV prog ann 70 (exitTo id K) s := den_exitV hf id K s
theorem call_eq (v0 : AV) (m : Mem) (h : closedL [v0] = true) : denC prog ann 70 [v0] m = (den prog ann 70 [.code b] ⟨[(0, v0)], 101, Mem.empty⟩).bind fun r => some (r.1, m) := (denC_pure hf (b := b) (by kernel_rfl) (by kernel_rfl) (by kernel_rfl) h m).trans (by kernel_rfl)
theorem pure_eq : (ann 70).pure = true := by kernel_rfl
attribute [simp] b_eq r0_eq r1_eq i0_eq i0t_eq r2_eq i0e_eq r3_eq r4_eq r5_eq k0_eq l0_eq r6_eq i1_eq i1t_eq i1e_eq k1_eq r8_eq k2_eq l2_eq r9_eq i2_eq i2t_eq i2e_eq k3_eq r10_eq r11_eq r12_eq r13_eq r14_eq i3_eq i3t_eq i3e_eq r15_eq i4_eq i4t_eq r16_eq i4e_eq r17_eq r18_eq r19_eq r7_eq r20_eq ret_eq nil_eq inBlock_eq exit_eq pure_eq
end brand_made

namespace brand_monoid_number
/-- (*pommel/brand.monoid).number -/
noncomputable def b : Code := (Try.f71.body).getD .skip
theorem hf : prog.funcs[71]? = some Try.f71 := by kernel_rfl
noncomputable def r0 : Code := findReg b 0
noncomputable def r1 : Code := findReg b 1
theorem b_eq (K : List Item) (s : St) : den prog ann 71 (.code b :: K) s = den prog ann 71 (.code r0 :: .code r1 :: .code .ret :: K) s := den_flat hf (l := [r0, r1, .ret]) (by kernel_rfl) K s
theorem r0_eq (K : List Item) (s : St) : den prog ann 71 (.code r0 :: K) s = mreg prog ann 71 none [] none [] [
    ⟨some 4, none, .v fun s => some (.int .i64 0)⟩] K s := (den_reg hf _ K s).trans (by kernel_rfl)
theorem r1_draw : drawOk (fun g => (ann g).pure) (modeOf (ann 71) (idOf r1)) (frzOf (ann 71) (idOf r1)) (opsOf r1) = true := drawOk_of (an := [0, 1, 3, 7, 0, 0, 0, 96, 240, 511, 1023]) (by kernel_rfl) (by kernel_rfl)
theorem r1_eq (K : List Item) (s : St) : den prog ann 71 (.code r1 :: K) s = mreg prog ann 71 none [] (some 11) [] [
    ⟨some 5, none, .v fun s => some (s.get 0)⟩,
    ⟨some 6, none, .v fun s => nilA (s.get 5)⟩,
    ⟨some 7, none, .v fun s => fieldA 3 (s.get 6)⟩,
    ⟨some 8, none, .v fun s => loadF false 1 (s.get 7)⟩,
    ⟨some 9, none, .v fun s => some (s.get 0)⟩,
    ⟨some 10, none, .v fun s => some (s.get 0)⟩,
    ⟨some 11, none, .v fun s => some (s.get 1)⟩,
    ⟨some 12, none, .c 0 (fun s => (.fn 88 [] [])) fun s => [(s.get 10), (s.get 11)]⟩,
    ⟨some 13, none, .c 0 (fun s => (.fn 87 [] [])) fun s => [(s.get 9), (s.get 12)]⟩,
    ⟨some 14, none, .v fun s => lookP prog s.m 139 (.int .i64 0) (s.get 8) (s.get 13) false⟩,
    ⟨some 4, none, .v fun s => some (s.get 14)⟩] K s := (den_regD hf r1_draw K s).trans (by kernel_rfl)
theorem ret_eq (K : List Item) (s : St) : den prog ann 71 (.code .ret :: K) s = finM true [fun s => some (s.get 4)] s := (den_ret hf K s).trans (by kernel_rfl)
theorem nil_eq (s : St) : den prog ann 71 [] s = finM true [fun s => some (s.get 4)] s := (den_nil hf s).trans (by kernel_rfl)
theorem inBlock_eq (id : Nat) (K : List Item) (s : St) : den prog ann 71 (.inBlock id :: K) s = den prog ann 71 K s := den_inBlock hf id K s
theorem exit_eq (id : Nat) (K : List Item) (s : St) : den prog ann 71 (.code (.exit id) :: K) s = exitV prog ann 71 (exitTo id K) s := den_exitV hf id K s
theorem call_eq (v0 v1 : AV) (m : Mem) (h : closedL [v0, v1] = true) : denC prog ann 71 [v0, v1] m = (den prog ann 71 [.code b] ⟨[(0, v0), (1, v1)], 15, Mem.empty⟩).bind fun r => some (r.1, m) := (denC_pure hf (b := b) (by kernel_rfl) (by kernel_rfl) (by kernel_rfl) h m).trans (by kernel_rfl)
theorem pure_eq : (ann 71).pure = true := by kernel_rfl
attribute [simp] b_eq r0_eq r1_eq ret_eq nil_eq inBlock_eq exit_eq pure_eq
end brand_monoid_number

namespace brand_monoid_table
/-- (*pommel/brand.monoid).table -/
noncomputable def b : Code := (Try.f87.body).getD .skip
theorem hf : prog.funcs[87]? = some Try.f87 := by kernel_rfl
noncomputable def r0 : Code := findReg b 0
noncomputable def r1 : Code := findReg b 1
noncomputable def k0 : Code := findBlk b 0
noncomputable def r2 : Code := findReg b 2
noncomputable def i0 : Code := findCond b 0
noncomputable def i0t : Code := thenOf i0
noncomputable def i0e : Code := elseOf i0
noncomputable def r3 : Code := findReg b 3
noncomputable def r4 : Code := findReg b 4
noncomputable def r5 : Code := findReg b 5
noncomputable def i1 : Code := findCond b 1
noncomputable def i1t : Code := thenOf i1
noncomputable def i1e : Code := elseOf i1
noncomputable def r6 : Code := findReg b 6
noncomputable def r7 : Code := findReg b 7
noncomputable def r8 : Code := findReg b 8
noncomputable def k1 : Code := findBlk b 1
noncomputable def l1 : Code := loopOf k1
noncomputable def L1 (x4 x6 x7 x22 x23 : AV) (m : Mem) (K : List Item) : Option Res := den prog ann 87 (.code l1 :: .inLoop l1 :: .inBlock 1 :: K) ⟨[(4, x4), (6, x6), (7, x7), (22, x22), (23, x23)], 34, m⟩
noncomputable def r9 : Code := findReg b 9
noncomputable def i2 : Code := findCond b 2
noncomputable def i2t : Code := thenOf i2
noncomputable def i2e : Code := elseOf i2
noncomputable def k2 : Code := findBlk b 2
noncomputable def r10 : Code := findReg b 10
noncomputable def r11 : Code := findReg b 11
noncomputable def r12 : Code := findReg b 12
noncomputable def r13 : Code := findReg b 13
noncomputable def r14 : Code := findReg b 14
theorem b_eq (K : List Item) (s : St) : den prog ann 87 (.code b :: K) s = den prog ann 87 (.code r0 :: .code r1 :: .code k0 :: .code r14 :: .code .ret :: K) s := den_flat hf (l := [r0, r1, k0, r14, .ret]) (by kernel_rfl) K s
theorem r0_eq (K : List Item) (s : St) : den prog ann 87 (.code r0 :: K) s = mreg prog ann 87 none [] none [] [
    ⟨some 4, none, .w false none fun s => newPtr s.m [.int .i64 0, .int .i64 0, .int .i64 0, .int .i64 0, .int .i64 0, .int .i64 0]⟩] K s := (den_reg hf _ K s).trans (by kernel_rfl)
theorem r1_eq (K : List Item) (s : St) : den prog ann 87 (.code r1 :: K) s = mreg prog ann 87 none [] none [] [
    ⟨some 9, none, .v fun s => some (s.get 1)⟩] K s := (den_reg hf _ K s).trans (by kernel_rfl)
theorem k0_eq (K : List Item) (s : St) : den prog ann 87 (.code k0 :: K) s = den prog ann 87 (.code r2 :: .code i0 :: .inBlock 0 :: K) s := den_blk hf (b := blkOf k0) (l := [r2, i0]) (by kernel_rfl) (by kernel_rfl) K s
theorem r2_eq (K : List Item) (s : St) : den prog ann 87 (.code r2 :: K) s = mreg prog ann 87 none [] none [] [
    ⟨some 10, none, .v fun s => tyA 139 (.agg [.int .i64 0, .int .i64 0, .int .i64 0, .int .i64 0, .int .i64 0, .int .i64 0]) (s.get 9)⟩,
    ⟨some 11, none, .v fun s => extA (s.get 10) 1⟩,
    ⟨some 12, none, .v fun s => extA (s.get 10) 0⟩] K s := (den_reg hf _ K s).trans (by kernel_rfl)
theorem i0_eq (K : List Item) (s : St) : den prog ann 87 (.code i0 :: K) s = ifV prog ann 87 11 i0t i0e K s (s.get 11) := den_if hf (by kernel_rfl) K s
theorem i0t_eq (K : List Item) (s : St) : den prog ann 87 (.code i0t :: K) s = den prog ann 87 (.code r3 :: .code r4 :: .code .ret :: K) s := den_flat hf (l := [r3, r4, .ret]) (by kernel_rfl) K s
theorem r3_eq (K : List Item) (s : St) : den prog ann 87 (.code r3 :: K) s = mreg prog ann 87 none [] none [5] [
    ⟨some 5, none, .w false none fun s => newPtr s.m [.int .i64 0, .int .i64 0, .int .i64 0, .int .i64 0, .int .i64 0, .int .i64 0]⟩,
    ⟨none, none, .w false none fun s => stA true 6 s.m (s.get 5) (s.get 12)⟩] K s := (den_reg hf _ K s).trans (by kernel_rfl)
theorem r4_eq (K : List Item) (s : St) : den prog ann 87 (.code r4 :: K) s = mreg prog ann 87 none [] none [] [
    ⟨some 13, none, .v fun s => loadF true 6 (s.get 5)⟩,
    ⟨none, none, .w false none fun s => stA true 6 s.m (s.get 4) (s.get 13)⟩] K s := (den_reg hf _ K s).trans (by kernel_rfl)
theorem i0e_eq (K : List Item) (s : St) : den prog ann 87 (.code i0e :: K) s = den prog ann 87 (.code r5 :: .code i1 :: K) s := den_flat hf (l := [r5, i1]) (by kernel_rfl) K s
theorem r5_eq (K : List Item) (s : St) : den prog ann 87 (.code r5 :: K) s = mreg prog ann 87 none [] none [] [
    ⟨some 14, none, .v fun s => tyA 142 (.agg []) (s.get 9)⟩,
    ⟨some 15, none, .v fun s => extA (s.get 14) 1⟩,
    ⟨some 16, none, .v fun s => extA (s.get 14) 0⟩] K s := (den_reg hf _ K s).trans (by kernel_rfl)
theorem i1_eq (K : List Item) (s : St) : den prog ann 87 (.code i1 :: K) s = ifV prog ann 87 15 i1t i1e K s (s.get 15) := den_if hf (by kernel_rfl) K s
theorem i1t_eq (K : List Item) (s : St) : den prog ann 87 (.code i1t :: K) s = den prog ann 87 (.code r6 :: .code r7 :: .code r8 :: .code k1 :: .code r13 :: .code .ret :: K) s := den_flat hf (l := [r6, r7, r8, k1, r13, .ret]) (by kernel_rfl) K s
theorem r6_eq (K : List Item) (s : St) : den prog ann 87 (.code r6 :: K) s = mreg prog ann 87 none [] none [6] [
    ⟨some 6, none, .w false none fun s => newPtr s.m []⟩,
    ⟨none, none, .w false none fun s => stA true 0 s.m (s.get 6) (s.get 16)⟩] K s := (den_reg hf _ K s).trans (by kernel_rfl)
theorem r7_eq (K : List Item) (s : St) : den prog ann 87 (.code r7 :: K) s = mreg prog ann 87 none [] none [] [
    ⟨some 7, none, .w false none fun s => newPtr s.m [.int .i64 0, .int .i64 0, .int .i64 0, .int .i64 0, .int .i64 0, .int .i64 0]⟩] K s := (den_reg hf _ K s).trans (by kernel_rfl)
theorem r8_eq (K : List Item) (s : St) : den prog ann 87 (.code r8 :: K) s = mreg prog ann 87 none [] none [] [
    ⟨some 17, none, .v fun s => some (s.get 0)⟩,
    ⟨some 18, none, .v fun s => nilA (s.get 17)⟩,
    ⟨some 19, none, .v fun s => fieldA 0 (s.get 18)⟩,
    ⟨some 20, none, .v fun s => fieldA 0 (s.get 19)⟩,
    ⟨some 21, none, .v fun s => loadF false 1 (s.get 20)⟩,
    ⟨some 22, none, .v fun s => lenSl (s.get 21)⟩,
    ⟨some 23, none, .v fun s => some (.int .i64 0)⟩] K s := (den_reg hf _ K s).trans (by kernel_rfl)
theorem k1_eq (K : List Item) (t : List (Nat × AV)) (m : Mem) : den prog ann 87 (.code k1 :: K) ⟨t, 34, m⟩ = L1 (get t 4) (get t 6) (get t 7) (get t 22) (get t 23) m K := den_loop_enter hf (b := l1) (id := 9) (l := [4, 6, 7, 22, 23]) (by kernel_rfl) (by kernel_rfl) (by kernel_rfl) K _
theorem l1_eq (K : List Item) (t : List (Nat × AV)) (m : Mem) : den prog ann 87 (.inLoop l1 :: .inBlock 1 :: K) ⟨t, 34, m⟩ = L1 (get t 4) (get t 6) (get t 7) (get t 22) (get t 23) m K := den_loop_again hf (id := 9) (l := [4, 6, 7, 22, 23]) (by kernel_rfl) (by kernel_rfl) (.inBlock 1 :: K) _
theorem L1_eq (x4 x6 x7 x22 x23 : AV) (m : Mem) (K : List Item) : L1 x4 x6 x7 x22 x23 m K = den prog ann 87 (.code r9 :: .code i2 :: .code k2 :: .code r12 :: .inLoop l1 :: .inBlock 1 :: K) ⟨[(4, x4), (6, x6), (7, x7), (22, x22), (23, x23)], 34, m⟩ := den_flat hf (l := [r9, i2, k2, r12]) (by kernel_rfl) _ _
theorem r9_eq (K : List Item) (s : St) : den prog ann 87 (.code r9 :: K) s = mreg prog ann 87 (some [4, 6, 7, 22, 23]) [] none [] [
    ⟨some 24, none, .v fun s => binA prog .lss 3 (s.get 23) (s.get 22)⟩] K s := (den_reg hf _ K s).trans (by kernel_rfl)
theorem i2_eq (K : List Item) (s : St) : den prog ann 87 (.code i2 :: K) s = ifV prog ann 87 24 i2t i2e K s (s.get 24) := den_if hf (by kernel_rfl) K s
theorem i2t_eq (K : List Item) (s : St) : den prog ann 87 (.code i2t :: K) s = den prog ann 87 (K) s := den_flat hf (l := []) (by kernel_rfl) K s
theorem i2e_eq (K : List Item) (s : St) : den prog ann 87 (.code i2e :: K) s = den prog ann 87 (.code (.exit 1) :: K) s := den_flat hf (l := [(.exit 1)]) (by kernel_rfl) K s
theorem k2_eq (K : List Item) (s : St) : den prog ann 87 (.code k2 :: K) s = den prog ann 87 (.code r10 :: .code r11 :: .inBlock 2 :: K) s := den_blk hf (b := blkOf k2) (l := [r10, r11]) (by kernel_rfl) (by kernel_rfl) K s
theorem r10_eq (K : List Item) (s : St) : den prog ann 87 (.code r10 :: K) s = mreg prog ann 87 none [] none [] [
    ⟨some 25, none, .v fun s => some (s.get 23)⟩,
    ⟨some 8, none, .v fun s => some (s.get 25)⟩] K s := (den_reg hf _ K s).trans (by kernel_rfl)
theorem r11_eq (K : List Item) (s : St) : den prog ann 87 (.code r11 :: K) s = mreg prog ann 87 none [] none [] [
    ⟨some 26, none, .v fun s => some (s.get 8)⟩,
    ⟨some 27, none, .v fun s => loadF true 0 (s.get 6)⟩,
    ⟨some 28, none, .v fun s => some (s.get 8)⟩,
    ⟨some 29, none, .c 0 (fun s => (.fn 95 [] [])) fun s => [(s.get 27), (s.get 28)]⟩,
    ⟨some 30, none, .v fun s => idxArr 6 1 (s.get 7) (s.get 26)⟩,
    ⟨none, none, .w false none fun s => stA false 1 s.m (s.get 30) (s.get 29)⟩] K s := (den_reg hf _ K s).trans (by kernel_rfl)
theorem r12_eq (K : List Item) (s : St) : den prog ann 87 (.code r12 :: K) s = mreg prog ann 87 (some [4, 6, 7, 22, 23]) [] none [] [
    ⟨some 31, none, .v fun s => binA prog .add 3 (s.get 23) (.int .i64 1)⟩,
    ⟨some 23, none, .v fun s => some (s.get 31)⟩] K s := (den_reg hf _ K s).trans (by kernel_rfl)
theorem r13_eq (K : List Item) (s : St) : den prog ann 87 (.code r13 :: K) s = mreg prog ann 87 (some [4, 7]) [] none [] [
    ⟨some 32, none, .v fun s => loadA true 6 s.m (s.get 7)⟩,
    ⟨none, none, .w false none fun s => stA true 6 s.m (s.get 4) (s.get 32)⟩] K s := (den_reg hf _ K s).trans (by kernel_rfl)
theorem i1e_eq (K : List Item) (s : St) : den prog ann 87 (.code i1e :: K) s = den prog ann 87 (K) s := den_flat hf (l := []) (by kernel_rfl) K s
theorem r14_eq (K : List Item) (s : St) : den prog ann 87 (.code r14 :: K) s = mreg prog ann 87 (some [4]) [] none [] [
    ⟨some 33, none, .v fun s => bldA (plcA 1) [.int .i64 0, .int .i64 0, .int .i64 0, .int .i64 0, .int .i64 0, .int .i64 0] []⟩,
    ⟨none, none, .w false none fun s => stA true 6 s.m (s.get 4) (s.get 33)⟩] K s := (den_reg hf _ K s).trans (by kernel_rfl)
theorem ret_eq (K : List Item) (s : St) : den prog ann 87 (.code .ret :: K) s = finM true [fun s => loadA true 6 s.m (s.get 4)] s := (den_ret hf K s).trans (by kernel_rfl)
theorem nil_eq (s : St) : den prog ann 87 [] s = finM true [fun s => loadA true 6 s.m (s.get 4)] s := (den_nil hf s).trans (by kernel_rfl)
theorem inBlock_eq (id : Nat) (K : List Item) (s : St) : den prog ann 87 (.inBlock id :: K) s = den prog ann 87 K s := den_inBlock hf id K s
theorem exit_eq (id : Nat) (K : List Item) (s : St) : den prog ann 87 (.code (.exit id) :: K) s = exitV prog ann 87 (exitTo id K) s := den_exitV hf id K s
theorem call_eq (v0 v1 : AV) (m : Mem) (h : closedL [v0, v1] = true) : denC prog ann 87 [v0, v1] m = (den prog ann 87 [.code b] ⟨[(0, v0), (1, v1)], 34, Mem.empty⟩).bind fun r => some (r.1, m) := (denC_pure hf (b := b) (by kernel_rfl) (by kernel_rfl) (by kernel_rfl) h m).trans (by kernel_rfl)
theorem pure_eq : (ann 87).pure = true := by kernel_rfl
attribute [simp] b_eq r0_eq r1_eq k0_eq r2_eq i0_eq i0t_eq r3_eq r4_eq i0e_eq r5_eq i1_eq i1t_eq r6_eq r7_eq r8_eq k1_eq l1_eq r9_eq i2_eq i2t_eq i2e_eq k2_eq r10_eq r11_eq r12_eq r13_eq i1e_eq r14_eq ret_eq nil_eq inBlock_eq exit_eq pure_eq
end brand_monoid_table

namespace brand_monoid_does
/-- (*pommel/brand.monoid).does -/
noncomputable def b : Code := (Try.f88.body).getD .skip
theorem hf : prog.funcs[88]? = some Try.f88 := by kernel_rfl
noncomputable def r0 : Code := findReg b 0
noncomputable def r1 : Code := findReg b 1
noncomputable def i0 : Code := findCond b 0
noncomputable def i0t : Code := thenOf i0
noncomputable def i0e : Code := elseOf i0
noncomputable def r2 : Code := findReg b 2
noncomputable def r3 : Code := findReg b 3
noncomputable def r4 : Code := findReg b 4
noncomputable def k0 : Code := findBlk b 0
noncomputable def l0 : Code := loopOf k0
noncomputable def L0 (x0 x1 x5 x16 x17 : AV) (m : Mem) (K : List Item) : Option Res := den prog ann 88 (.code l0 :: .inLoop l0 :: .inBlock 0 :: K) ⟨[(0, x0), (1, x1), (5, x5), (16, x16), (17, x17)], 32, m⟩
noncomputable def r5 : Code := findReg b 5
noncomputable def i1 : Code := findCond b 1
noncomputable def i1t : Code := thenOf i1
noncomputable def i1e : Code := elseOf i1
noncomputable def k1 : Code := findBlk b 1
noncomputable def r6 : Code := findReg b 6
noncomputable def r7 : Code := findReg b 7
noncomputable def r8 : Code := findReg b 8
noncomputable def r9 : Code := findReg b 9
theorem b_eq (K : List Item) (s : St) : den prog ann 88 (.code b :: K) s = den prog ann 88 (.code r0 :: .code r1 :: .code i0 :: .code r3 :: .code r4 :: .code k0 :: .code r9 :: .code .ret :: K) s := den_flat hf (l := [r0, r1, i0, r3, r4, k0, r9, .ret]) (by kernel_rfl) K s
theorem r0_eq (K : List Item) (s : St) : den prog ann 88 (.code r0 :: K) s = mreg prog ann 88 none [] none [] [
    ⟨some 4, none, .v fun s => some (.nili)⟩] K s := (den_reg hf _ K s).trans (by kernel_rfl)
theorem r1_eq (K : List Item) (s : St) : den prog ann 88 (.code r1 :: K) s = mreg prog ann 88 none [] none [] [
    ⟨some 7, none, .v fun s => some (s.get 1)⟩,
    ⟨some 8, none, .v fun s => binA prog .eql 9 (s.get 7) (.str [])⟩] K s := (den_reg hf _ K s).trans (by kernel_rfl)
theorem i0_eq (K : List Item) (s : St) : den prog ann 88 (.code i0 :: K) s = ifV prog ann 88 8 i0t i0e K s (s.get 8) := den_if hf (by kernel_rfl) K s
theorem i0t_eq (K : List Item) (s : St) : den prog ann 88 (.code i0t :: K) s = den prog ann 88 (.code r2 :: .code .ret :: K) s := den_flat hf (l := [r2, .ret]) (by kernel_rfl) K s
theorem r2_eq (K : List Item) (s : St) : den prog ann 88 (.code r2 :: K) s = mreg prog ann 88 none [] none [] [
    ⟨some 9, none, .v fun s => bldA (plc []) [] []⟩,
    ⟨some 10, none, .v fun s => some (.iface 142 (s.get 9))⟩,
    ⟨some 4, none, .v fun s => some (s.get 10)⟩] K s := (den_reg hf _ K s).trans (by kernel_rfl)
theorem i0e_eq (K : List Item) (s : St) : den prog ann 88 (.code i0e :: K) s = den prog ann 88 (K) s := den_flat hf (l := []) (by kernel_rfl) K s
theorem r3_eq (K : List Item) (s : St) : den prog ann 88 (.code r3 :: K) s = mreg prog ann 88 none [] none [] [
    ⟨some 5, none, .w false none fun s => newPtr s.m [.int .i64 0, .int .i64 0, .int .i64 0, .int .i64 0, .int .i64 0, .int .i64 0]⟩] K s := (den_reg hf _ K s).trans (by kernel_rfl)
theorem r4_eq (K : List Item) (s : St) : den prog ann 88 (.code r4 :: K) s = mreg prog ann 88 none [] none [] [
    ⟨some 11, none, .v fun s => some (s.get 0)⟩,
    ⟨some 12, none, .v fun s => nilA (s.get 11)⟩,
    ⟨some 13, none, .v fun s => fieldA 0 (s.get 12)⟩,
    ⟨some 14, none, .v fun s => fieldA 0 (s.get 13)⟩,
    ⟨some 15, none, .v fun s => loadF false 1 (s.get 14)⟩,
    ⟨some 16, none, .v fun s => lenSl (s.get 15)⟩,
    ⟨some 17, none, .v fun s => some (.int .i64 0)⟩] K s := (den_reg hf _ K s).trans (by kernel_rfl)
theorem k0_eq (K : List Item) (t : List (Nat × AV)) (m : Mem) : den prog ann 88 (.code k0 :: K) ⟨t, 32, m⟩ = L0 (get t 0) (get t 1) (get t 5) (get t 16) (get t 17) m K := den_loop_enter hf (b := l0) (id := 5) (l := [0, 1, 5, 16, 17]) (by kernel_rfl) (by kernel_rfl) (by kernel_rfl) K _
theorem l0_eq (K : List Item) (t : List (Nat × AV)) (m : Mem) : den prog ann 88 (.inLoop l0 :: .inBlock 0 :: K) ⟨t, 32, m⟩ = L0 (get t 0) (get t 1) (get t 5) (get t 16) (get t 17) m K := den_loop_again hf (id := 5) (l := [0, 1, 5, 16, 17]) (by kernel_rfl) (by kernel_rfl) (.inBlock 0 :: K) _
theorem L0_eq (x0 x1 x5 x16 x17 : AV) (m : Mem) (K : List Item) : L0 x0 x1 x5 x16 x17 m K = den prog ann 88 (.code r5 :: .code i1 :: .code k1 :: .code r8 :: .inLoop l0 :: .inBlock 0 :: K) ⟨[(0, x0), (1, x1), (5, x5), (16, x16), (17, x17)], 32, m⟩ := den_flat hf (l := [r5, i1, k1, r8]) (by kernel_rfl) _ _
theorem r5_eq (K : List Item) (s : St) : den prog ann 88 (.code r5 :: K) s = mreg prog ann 88 (some [0, 1, 5, 16, 17]) [] none [] [
    ⟨some 18, none, .v fun s => binA prog .lss 3 (s.get 17) (s.get 16)⟩] K s := (den_reg hf _ K s).trans (by kernel_rfl)
theorem i1_eq (K : List Item) (s : St) : den prog ann 88 (.code i1 :: K) s = ifV prog ann 88 18 i1t i1e K s (s.get 18) := den_if hf (by kernel_rfl) K s
theorem i1t_eq (K : List Item) (s : St) : den prog ann 88 (.code i1t :: K) s = den prog ann 88 (K) s := den_flat hf (l := []) (by kernel_rfl) K s
theorem i1e_eq (K : List Item) (s : St) : den prog ann 88 (.code i1e :: K) s = den prog ann 88 (.code (.exit 0) :: K) s := den_flat hf (l := [(.exit 0)]) (by kernel_rfl) K s
theorem k1_eq (K : List Item) (s : St) : den prog ann 88 (.code k1 :: K) s = den prog ann 88 (.code r6 :: .code r7 :: .inBlock 1 :: K) s := den_blk hf (b := blkOf k1) (l := [r6, r7]) (by kernel_rfl) (by kernel_rfl) K s
theorem r6_eq (K : List Item) (s : St) : den prog ann 88 (.code r6 :: K) s = mreg prog ann 88 none [] none [] [
    ⟨some 19, none, .v fun s => some (s.get 17)⟩,
    ⟨some 6, none, .v fun s => some (s.get 19)⟩] K s := (den_reg hf _ K s).trans (by kernel_rfl)
theorem r7_eq (K : List Item) (s : St) : den prog ann 88 (.code r7 :: K) s = mreg prog ann 88 none [] none [] [
    ⟨some 20, none, .v fun s => some (s.get 6)⟩,
    ⟨some 21, none, .v fun s => some (s.get 0)⟩,
    ⟨some 22, none, .v fun s => nilA (s.get 21)⟩,
    ⟨some 23, none, .v fun s => fieldA 0 (s.get 22)⟩,
    ⟨some 24, none, .v fun s => loadF true 2 (s.get 23)⟩,
    ⟨some 25, none, .v fun s => some (s.get 6)⟩,
    ⟨some 26, none, .v fun s => some (s.get 1)⟩,
    ⟨some 27, none, .c 0 (fun s => (.fn 69 [] [])) fun s => [(s.get 24), (s.get 25), (s.get 26)]⟩,
    ⟨some 28, none, .v fun s => idxArr 6 1 (s.get 5) (s.get 20)⟩,
    ⟨none, none, .w false none fun s => stA false 1 s.m (s.get 28) (s.get 27)⟩] K s := (den_reg hf _ K s).trans (by kernel_rfl)
theorem r8_eq (K : List Item) (s : St) : den prog ann 88 (.code r8 :: K) s = mreg prog ann 88 (some [0, 1, 5, 16, 17]) [] none [] [
    ⟨some 29, none, .v fun s => binA prog .add 3 (s.get 17) (.int .i64 1)⟩,
    ⟨some 17, none, .v fun s => some (s.get 29)⟩] K s := (den_reg hf _ K s).trans (by kernel_rfl)
theorem r9_eq (K : List Item) (s : St) : den prog ann 88 (.code r9 :: K) s = mreg prog ann 88 (some [5]) [] none [] [
    ⟨some 30, none, .v fun s => loadA true 6 s.m (s.get 5)⟩,
    ⟨some 31, none, .v fun s => some (.iface 139 (s.get 30))⟩,
    ⟨some 4, none, .v fun s => some (s.get 31)⟩] K s := (den_reg hf _ K s).trans (by kernel_rfl)
theorem ret_eq (K : List Item) (s : St) : den prog ann 88 (.code .ret :: K) s = finM true [fun s => some (s.get 4)] s := (den_ret hf K s).trans (by kernel_rfl)
theorem nil_eq (s : St) : den prog ann 88 [] s = finM true [fun s => some (s.get 4)] s := (den_nil hf s).trans (by kernel_rfl)
theorem inBlock_eq (id : Nat) (K : List Item) (s : St) : den prog ann 88 (.inBlock id :: K) s = den prog ann 88 K s := den_inBlock hf id K s
theorem exit_eq (id : Nat) (K : List Item) (s : St) : den prog ann 88 (.code (.exit id) :: K) s = exitV prog ann 88 (exitTo id K) s := den_exitV hf id K s
theorem call_eq (v0 v1 : AV) (m : Mem) (h : closedL [v0, v1] = true) : denC prog ann 88 [v0, v1] m = (den prog ann 88 [.code b] ⟨[(0, v0), (1, v1)], 32, Mem.empty⟩).bind fun r => some (r.1, m) := (denC_pure hf (b := b) (by kernel_rfl) (by kernel_rfl) (by kernel_rfl) h m).trans (by kernel_rfl)
theorem pure_eq : (ann 88).pure = true := by kernel_rfl
attribute [simp] b_eq r0_eq r1_eq i0_eq i0t_eq r2_eq i0e_eq r3_eq r4_eq k0_eq l0_eq r5_eq i1_eq i1t_eq i1e_eq k1_eq r6_eq r7_eq r8_eq r9_eq ret_eq nil_eq inBlock_eq exit_eq pure_eq
end brand_monoid_does

namespace brand_Monoid
/-- pommel/brand.Monoid -/
noncomputable def b : Code := (Try.f36.body).getD .skip
theorem hf : prog.funcs[36]? = some Try.f36 := by kernel_rfl
noncomputable def r0 : Code := findReg b 0
noncomputable def r1 : Code := findReg b 1
noncomputable def r2 : Code := findReg b 2
noncomputable def i0 : Code := findCond b 0
noncomputable def i0t : Code := thenOf i0
noncomputable def i0e : Code := elseOf i0
noncomputable def r3 : Code := findReg b 3
noncomputable def r4 : Code := findReg b 4
theorem b_eq (K : List Item) (s : St) : den prog ann 36 (.code b :: K) s = den prog ann 36 (.code r0 :: .code r1 :: .code r2 :: .code i0 :: .code r4 :: .code .ret :: K) s := den_flat hf (l := [r0, r1, r2, i0, r4, .ret]) (by kernel_rfl) K s
theorem r0_eq (K : List Item) (s : St) : den prog ann 36 (.code r0 :: K) s = mreg prog ann 36 none [] none [] [
    ⟨some 1, none, .v fun s => frozenPtr (s.get 0)⟩,
    ⟨some 2, none, .v fun s => some (.nils)⟩,
    ⟨some 3, none, .v fun s => some (.int .i64 0)⟩] K s := (den_reg hf _ K s).trans (by kernel_rfl)
theorem r1_eq (K : List Item) (s : St) : den prog ann 36 (.code r1 :: K) s = mreg prog ann 36 none [] none [] [
    ⟨some 7, none, .v fun s => loadF true 2 (s.get 1)⟩,
    ⟨some 8, none, .c 0 (fun s => (.fn 70 [] [])) fun s => [(s.get 7)]⟩,
    ⟨some 6, none, .v fun s => some (s.get 8)⟩,
    ⟨some 9, none, .v fun s => extA (s.get 6) 0⟩,
    ⟨some 10, none, .v fun s => extA (s.get 6) 1⟩,
    ⟨some 4, none, .v fun s => some (s.get 9)⟩,
    ⟨some 5, none, .v fun s => some (s.get 10)⟩] K s := (den_reg hf _ K s).trans (by kernel_rfl)
theorem r2_eq (K : List Item) (s : St) : den prog ann 36 (.code r2 :: K) s = mreg prog ann 36 none [] none [] [
    ⟨some 11, none, .v fun s => some (s.get 5)⟩,
    ⟨some 12, none, .v fun s => binA prog .neq 27 (s.get 11) (.int .i64 0)⟩] K s := (den_reg hf _ K s).trans (by kernel_rfl)
theorem i0_eq (K : List Item) (s : St) : den prog ann 36 (.code i0 :: K) s = ifV prog ann 36 12 i0t i0e K s (s.get 12) := den_if hf (by kernel_rfl) K s
theorem i0t_eq (K : List Item) (s : St) : den prog ann 36 (.code i0t :: K) s = den prog ann 36 (.code r3 :: .code .ret :: K) s := den_flat hf (l := [r3, .ret]) (by kernel_rfl) K s
theorem r3_eq (K : List Item) (s : St) : den prog ann 36 (.code r3 :: K) s = mreg prog ann 36 none [] none [] [
    ⟨some 13, none, .v fun s => some (s.get 5)⟩,
    ⟨some 2, none, .v fun s => some (.nils)⟩,
    ⟨some 3, none, .v fun s => some (s.get 13)⟩] K s := (den_reg hf _ K s).trans (by kernel_rfl)
theorem i0e_eq (K : List Item) (s : St) : den prog ann 36 (.code i0e :: K) s = den prog ann 36 (K) s := den_flat hf (l := []) (by kernel_rfl) K s
theorem r4_eq (K : List Item) (s : St) : den prog ann 36 (.code r4 :: K) s = mreg prog ann 36 none [] none [] [
    ⟨some 14, none, .v fun s => some (s.get 4)⟩,
    ⟨some 15, none, .v fun s => nilA (s.get 14)⟩,
    ⟨some 16, none, .v fun s => fieldA 2 (s.get 15)⟩,
    ⟨some 17, none, .v fun s => loadF false 1 (s.get 16)⟩,
    ⟨some 2, none, .v fun s => some (s.get 17)⟩,
    ⟨some 3, none, .v fun s => some (.int .i64 0)⟩] K s := (den_reg hf _ K s).trans (by kernel_rfl)
theorem ret_eq (K : List Item) (s : St) : den prog ann 36 (.code .ret :: K) s = finM true [fun s => some (s.get 2), fun s => some (s.get 3)] s := (den_ret hf K s).trans (by kernel_rfl)
theorem nil_eq (s : St) : den prog ann 36 [] s = finM true [fun s => some (s.get 2), fun s => some (s.get 3)] s := (den_nil hf s).trans (by kernel_rfl)
theorem inBlock_eq (id : Nat) (K : List Item) (s : St) : den prog ann 36 (.inBlock id :: K) s = den prog ann 36 K s := den_inBlock hf id K s
theorem exit_eq (id : Nat) (K : List Item) (s : St) : den prog ann 36 (.code (.exit id) :: K) s = exitV prog ann 36 (exitTo id K) s := den_exitV hf id K s
theorem call_eq (v0 : AV) (m : Mem) (h : closedL [v0] = true) : denC prog ann 36 [v0] m = (den prog ann 36 [.code b] ⟨[(0, v0)], 18, Mem.empty⟩).bind fun r => some (r.1, m) := (denC_pure hf (b := b) (by kernel_rfl) (by kernel_rfl) (by kernel_rfl) h m).trans (by kernel_rfl)
theorem pure_eq : (ann 36).pure = true := by kernel_rfl
attribute [simp] b_eq r0_eq r1_eq r2_eq i0_eq i0t_eq r3_eq i0e_eq r4_eq ret_eq nil_eq inBlock_eq exit_eq pure_eq
end brand_Monoid

namespace brand_Element
/-- pommel/brand.Element -/
noncomputable def b : Code := (Try.f37.body).getD .skip
theorem hf : prog.funcs[37]? = some Try.f37 := by kernel_rfl
noncomputable def r0 : Code := findReg b 0
noncomputable def r1 : Code := findReg b 1
noncomputable def r2 : Code := findReg b 2
noncomputable def i0 : Code := findCond b 0
noncomputable def i0t : Code := thenOf i0
noncomputable def i0e : Code := elseOf i0
noncomputable def r3 : Code := findReg b 3
noncomputable def r4 : Code := findReg b 4
noncomputable def r5 : Code := findReg b 5
noncomputable def i1 : Code := findCond b 1
noncomputable def i1t : Code := thenOf i1
noncomputable def i1e : Code := elseOf i1
noncomputable def r6 : Code := findReg b 6
noncomputable def r7 : Code := findReg b 7
theorem b_eq (K : List Item) (s : St) : den prog ann 37 (.code b :: K) s = den prog ann 37 (.code r0 :: .code r1 :: .code r2 :: .code i0 :: .code r4 :: .code r5 :: .code i1 :: .code r7 :: .code .ret :: K) s := den_flat hf (l := [r0, r1, r2, i0, r4, r5, i1, r7, .ret]) (by kernel_rfl) K s
theorem r0_eq (K : List Item) (s : St) : den prog ann 37 (.code r0 :: K) s = mreg prog ann 37 none [] none [] [
    ⟨some 2, none, .v fun s => frozenPtr (s.get 0)⟩,
    ⟨some 4, none, .v fun s => some (.str [])⟩,
    ⟨some 5, none, .v fun s => some (.int .i64 0)⟩] K s := (den_reg hf _ K s).trans (by kernel_rfl)
theorem r1_eq (K : List Item) (s : St) : den prog ann 37 (.code r1 :: K) s = mreg prog ann 37 none [] none [] [
    ⟨some 9, none, .v fun s => loadF true 2 (s.get 2)⟩,
    ⟨some 10, none, .v fun s => some (s.get 1)⟩,
    ⟨some 11, none, .c 0 (fun s => (.fn 68 [] [])) fun s => [(s.get 9), (s.get 10)]⟩,
    ⟨some 6, none, .v fun s => some (s.get 11)⟩] K s := (den_reg hf _ K s).trans (by kernel_rfl)
theorem r2_eq (K : List Item) (s : St) : den prog ann 37 (.code r2 :: K) s = mreg prog ann 37 none [] none [] [
    ⟨some 12, none, .v fun s => some (s.get 6)⟩,
    ⟨some 13, none, .v fun s => binA prog .neq 27 (s.get 12) (.int .i64 0)⟩] K s := (den_reg hf _ K s).trans (by kernel_rfl)
theorem i0_eq (K : List Item) (s : St) : den prog ann 37 (.code i0 :: K) s = ifV prog ann 37 13 i0t i0e K s (s.get 13) := den_if hf (by kernel_rfl) K s
theorem i0t_eq (K : List Item) (s : St) : den prog ann 37 (.code i0t :: K) s = den prog ann 37 (.code r3 :: .code .ret :: K) s := den_flat hf (l := [r3, .ret]) (by kernel_rfl) K s
theorem r3_eq (K : List Item) (s : St) : den prog ann 37 (.code r3 :: K) s = mreg prog ann 37 none [] none [] [
    ⟨some 14, none, .v fun s => some (s.get 6)⟩,
    ⟨some 4, none, .v fun s => some (.str [])⟩,
    ⟨some 5, none, .v fun s => some (s.get 14)⟩] K s := (den_reg hf _ K s).trans (by kernel_rfl)
theorem i0e_eq (K : List Item) (s : St) : den prog ann 37 (.code i0e :: K) s = den prog ann 37 (K) s := den_flat hf (l := []) (by kernel_rfl) K s
theorem r4_eq (K : List Item) (s : St) : den prog ann 37 (.code r4 :: K) s = mreg prog ann 37 none [] none [] [
    ⟨some 16, none, .v fun s => loadF true 2 (s.get 2)⟩,
    ⟨some 17, none, .c 0 (fun s => (.fn 70 [] [])) fun s => [(s.get 16)]⟩,
    ⟨some 15, none, .v fun s => some (s.get 17)⟩,
    ⟨some 18, none, .v fun s => extA (s.get 15) 0⟩,
    ⟨some 19, none, .v fun s => extA (s.get 15) 1⟩,
    ⟨some 7, none, .v fun s => some (s.get 18)⟩,
    ⟨some 8, none, .v fun s => some (s.get 19)⟩] K s := (den_reg hf _ K s).trans (by kernel_rfl)
theorem r5_eq (K : List Item) (s : St) : den prog ann 37 (.code r5 :: K) s = mreg prog ann 37 none [] none [] [
    ⟨some 20, none, .v fun s => some (s.get 8)⟩,
    ⟨some 21, none, .v fun s => binA prog .neq 27 (s.get 20) (.int .i64 0)⟩] K s := (den_reg hf _ K s).trans (by kernel_rfl)
theorem i1_eq (K : List Item) (s : St) : den prog ann 37 (.code i1 :: K) s = ifV prog ann 37 21 i1t i1e K s (s.get 21) := den_if hf (by kernel_rfl) K s
theorem i1t_eq (K : List Item) (s : St) : den prog ann 37 (.code i1t :: K) s = den prog ann 37 (.code r6 :: .code .ret :: K) s := den_flat hf (l := [r6, .ret]) (by kernel_rfl) K s
theorem r6_eq (K : List Item) (s : St) : den prog ann 37 (.code r6 :: K) s = mreg prog ann 37 none [] none [] [
    ⟨some 22, none, .v fun s => some (s.get 8)⟩,
    ⟨some 4, none, .v fun s => some (.str [])⟩,
    ⟨some 5, none, .v fun s => some (s.get 22)⟩] K s := (den_reg hf _ K s).trans (by kernel_rfl)
theorem i1e_eq (K : List Item) (s : St) : den prog ann 37 (.code i1e :: K) s = den prog ann 37 (K) s := den_flat hf (l := []) (by kernel_rfl) K s
theorem r7_draw : drawOk (fun g => (ann g).pure) (modeOf (ann 37) (idOf r7)) (frzOf (ann 37) (idOf r7)) (opsOf r7) = true := drawOk_of (an := [0, 1, 3, 7, 0, 0, 48, 127, 255, 511, 1023]) (by kernel_rfl) (by kernel_rfl)
theorem r7_eq (K : List Item) (s : St) : den prog ann 37 (.code r7 :: K) s = mreg prog ann 37 none [] (some 11) [] [
    ⟨some 23, none, .v fun s => some (s.get 7)⟩,
    ⟨some 24, none, .v fun s => nilA (s.get 23)⟩,
    ⟨some 25, none, .v fun s => fieldA 2 (s.get 24)⟩,
    ⟨some 26, none, .v fun s => loadF false 1 (s.get 25)⟩,
    ⟨some 27, none, .v fun s => some (s.get 7)⟩,
    ⟨some 28, none, .v fun s => some (s.get 1)⟩,
    ⟨some 29, none, .c 0 (fun s => (.fn 71 [] [])) fun s => [(s.get 27), (s.get 28)]⟩,
    ⟨some 30, none, .v fun s => idxSl 1 (s.get 26) (s.get 29)⟩,
    ⟨some 31, none, .v fun s => loadF false 1 (s.get 30)⟩,
    ⟨some 4, none, .v fun s => some (s.get 31)⟩,
    ⟨some 5, none, .v fun s => some (.int .i64 0)⟩] K s := (den_regD hf r7_draw K s).trans (by kernel_rfl)
theorem ret_eq (K : List Item) (s : St) : den prog ann 37 (.code .ret :: K) s = finM true [fun s => some (s.get 4), fun s => some (s.get 5)] s := (den_ret hf K s).trans (by kernel_rfl)
theorem nil_eq (s : St) : den prog ann 37 [] s = finM true [fun s => some (s.get 4), fun s => some (s.get 5)] s := (den_nil hf s).trans (by kernel_rfl)
theorem inBlock_eq (id : Nat) (K : List Item) (s : St) : den prog ann 37 (.inBlock id :: K) s = den prog ann 37 K s := den_inBlock hf id K s
theorem exit_eq (id : Nat) (K : List Item) (s : St) : den prog ann 37 (.code (.exit id) :: K) s = exitV prog ann 37 (exitTo id K) s := den_exitV hf id K s
theorem call_eq (v0 v1 : AV) (m : Mem) (h : closedL [v0, v1] = true) : denC prog ann 37 [v0, v1] m = (den prog ann 37 [.code b] ⟨[(0, v0), (1, v1)], 32, Mem.empty⟩).bind fun r => some (r.1, m) := (denC_pure hf (b := b) (by kernel_rfl) (by kernel_rfl) (by kernel_rfl) h m).trans (by kernel_rfl)
theorem pure_eq : (ann 37).pure = true := by kernel_rfl
attribute [simp] b_eq r0_eq r1_eq r2_eq i0_eq i0t_eq r3_eq i0e_eq r4_eq r5_eq i1_eq i1t_eq r6_eq i1e_eq r7_eq ret_eq nil_eq inBlock_eq exit_eq pure_eq
end brand_Element

namespace brand_Idempotents
/-- pommel/brand.Idempotents -/
noncomputable def b : Code := (Try.f40.body).getD .skip
theorem hf : prog.funcs[40]? = some Try.f40 := by kernel_rfl
noncomputable def r0 : Code := findReg b 0
noncomputable def r1 : Code := findReg b 1
noncomputable def r2 : Code := findReg b 2
noncomputable def i0 : Code := findCond b 0
noncomputable def i0t : Code := thenOf i0
noncomputable def i0e : Code := elseOf i0
noncomputable def r3 : Code := findReg b 3
noncomputable def r4 : Code := findReg b 4
noncomputable def r5 : Code := findReg b 5
noncomputable def k0 : Code := findBlk b 0
noncomputable def l0 : Code := loopOf k0
noncomputable def L0 (x4 x6 x20 x21 x22 : AV) (m : Mem) (K : List Item) : Option Res := den prog ann 40 (.code l0 :: .inLoop l0 :: .inBlock 0 :: K) ⟨[(4, x4), (6, x6), (20, x20), (21, x21), (22, x22)], 40, m⟩
noncomputable def r6 : Code := findReg b 6
noncomputable def i1 : Code := findCond b 1
noncomputable def i1t : Code := thenOf i1
noncomputable def i1e : Code := elseOf i1
noncomputable def k1 : Code := findBlk b 1
noncomputable def r7 : Code := findReg b 7
noncomputable def r8 : Code := findReg b 8
noncomputable def i2 : Code := findCond b 2
noncomputable def i2t : Code := thenOf i2
noncomputable def i2e : Code := elseOf i2
noncomputable def r9 : Code := findReg b 9
noncomputable def r10 : Code := findReg b 10
noncomputable def r11 : Code := findReg b 11
theorem b_eq (K : List Item) (s : St) : den prog ann 40 (.code b :: K) s = den prog ann 40 (.code r0 :: .code r1 :: .code r2 :: .code i0 :: .code r4 :: .code r5 :: .code k0 :: .code r11 :: .code .ret :: K) s := den_flat hf (l := [r0, r1, r2, i0, r4, r5, k0, r11, .ret]) (by kernel_rfl) K s
theorem r0_eq (K : List Item) (s : St) : den prog ann 40 (.code r0 :: K) s = mreg prog ann 40 none [] none [] [
    ⟨some 1, none, .v fun s => frozenPtr (s.get 0)⟩,
    ⟨some 2, none, .v fun s => some (.nils)⟩,
    ⟨some 3, none, .v fun s => some (.int .i64 0)⟩] K s := (den_reg hf _ K s).trans (by kernel_rfl)
theorem r1_eq (K : List Item) (s : St) : den prog ann 40 (.code r1 :: K) s = mreg prog ann 40 none [] none [] [
    ⟨some 10, none, .v fun s => loadF true 2 (s.get 1)⟩,
    ⟨some 11, none, .c 0 (fun s => (.fn 70 [] [])) fun s => [(s.get 10)]⟩,
    ⟨some 9, none, .v fun s => some (s.get 11)⟩,
    ⟨some 12, none, .v fun s => extA (s.get 9) 0⟩,
    ⟨some 13, none, .v fun s => extA (s.get 9) 1⟩,
    ⟨some 4, none, .v fun s => some (s.get 12)⟩,
    ⟨some 5, none, .v fun s => some (s.get 13)⟩] K s := (den_reg hf _ K s).trans (by kernel_rfl)
theorem r2_eq (K : List Item) (s : St) : den prog ann 40 (.code r2 :: K) s = mreg prog ann 40 none [] none [] [
    ⟨some 14, none, .v fun s => some (s.get 5)⟩,
    ⟨some 15, none, .v fun s => binA prog .neq 27 (s.get 14) (.int .i64 0)⟩] K s := (den_reg hf _ K s).trans (by kernel_rfl)
theorem i0_eq (K : List Item) (s : St) : den prog ann 40 (.code i0 :: K) s = ifV prog ann 40 15 i0t i0e K s (s.get 15) := den_if hf (by kernel_rfl) K s
theorem i0t_eq (K : List Item) (s : St) : den prog ann 40 (.code i0t :: K) s = den prog ann 40 (.code r3 :: .code .ret :: K) s := den_flat hf (l := [r3, .ret]) (by kernel_rfl) K s
theorem r3_eq (K : List Item) (s : St) : den prog ann 40 (.code r3 :: K) s = mreg prog ann 40 none [] none [] [
    ⟨some 16, none, .v fun s => some (s.get 5)⟩,
    ⟨some 2, none, .v fun s => some (.nils)⟩,
    ⟨some 3, none, .v fun s => some (s.get 16)⟩] K s := (den_reg hf _ K s).trans (by kernel_rfl)
theorem i0e_eq (K : List Item) (s : St) : den prog ann 40 (.code i0e :: K) s = den prog ann 40 (K) s := den_flat hf (l := []) (by kernel_rfl) K s
theorem r4_eq (K : List Item) (s : St) : den prog ann 40 (.code r4 :: K) s = mreg prog ann 40 none [] none [] [
    ⟨some 6, none, .v fun s => some (.nils)⟩] K s := (den_reg hf _ K s).trans (by kernel_rfl)
theorem r5_eq (K : List Item) (s : St) : den prog ann 40 (.code r5 :: K) s = mreg prog ann 40 none [] none [] [
    ⟨some 17, none, .v fun s => some (s.get 4)⟩,
    ⟨some 18, none, .v fun s => nilA (s.get 17)⟩,
    ⟨some 19, none, .v fun s => fieldA 2 (s.get 18)⟩,
    ⟨some 20, none, .v fun s => loadF false 1 (s.get 19)⟩,
    ⟨some 21, none, .v fun s => lenSl (s.get 20)⟩,
    ⟨some 22, none, .v fun s => some (.int .i64 0)⟩] K s := (den_reg hf _ K s).trans (by kernel_rfl)
theorem k0_eq (K : List Item) (t : List (Nat × AV)) (m : Mem) : den prog ann 40 (.code k0 :: K) ⟨t, 40, m⟩ = L0 (get t 4) (get t 6) (get t 20) (get t 21) (get t 22) m K := den_loop_enter hf (b := l0) (id := 6) (l := [4, 6, 20, 21, 22]) (by kernel_rfl) (by kernel_rfl) (by kernel_rfl) K _
theorem l0_eq (K : List Item) (t : List (Nat × AV)) (m : Mem) : den prog ann 40 (.inLoop l0 :: .inBlock 0 :: K) ⟨t, 40, m⟩ = L0 (get t 4) (get t 6) (get t 20) (get t 21) (get t 22) m K := den_loop_again hf (id := 6) (l := [4, 6, 20, 21, 22]) (by kernel_rfl) (by kernel_rfl) (.inBlock 0 :: K) _
theorem L0_eq (x4 x6 x20 x21 x22 : AV) (m : Mem) (K : List Item) : L0 x4 x6 x20 x21 x22 m K = den prog ann 40 (.code r6 :: .code i1 :: .code k1 :: .code r10 :: .inLoop l0 :: .inBlock 0 :: K) ⟨[(4, x4), (6, x6), (20, x20), (21, x21), (22, x22)], 40, m⟩ := den_flat hf (l := [r6, i1, k1, r10]) (by kernel_rfl) _ _
theorem r6_eq (K : List Item) (s : St) : den prog ann 40 (.code r6 :: K) s = mreg prog ann 40 (some [4, 6, 20, 21, 22]) [] none [] [
    ⟨some 23, none, .v fun s => binA prog .lss 3 (s.get 22) (s.get 21)⟩] K s := (den_reg hf _ K s).trans (by kernel_rfl)
theorem i1_eq (K : List Item) (s : St) : den prog ann 40 (.code i1 :: K) s = ifV prog ann 40 23 i1t i1e K s (s.get 23) := den_if hf (by kernel_rfl) K s
theorem i1t_eq (K : List Item) (s : St) : den prog ann 40 (.code i1t :: K) s = den prog ann 40 (K) s := den_flat hf (l := []) (by kernel_rfl) K s
theorem i1e_eq (K : List Item) (s : St) : den prog ann 40 (.code i1e :: K) s = den prog ann 40 (.code (.exit 0) :: K) s := den_flat hf (l := [(.exit 0)]) (by kernel_rfl) K s
theorem k1_eq (K : List Item) (s : St) : den prog ann 40 (.code k1 :: K) s = den prog ann 40 (.code r7 :: .code r8 :: .code i2 :: .inBlock 1 :: K) s := den_blk hf (b := blkOf k1) (l := [r7, r8, i2]) (by kernel_rfl) (by kernel_rfl) K s
theorem r7_eq (K : List Item) (s : St) : den prog ann 40 (.code r7 :: K) s = mreg prog ann 40 none [] none [] [
    ⟨some 24, none, .v fun s => some (s.get 22)⟩,
    ⟨some 25, none, .v fun s => idxSl 1 (s.get 20) (s.get 22)⟩,
    ⟨some 26, none, .v fun s => loadF false 1 (s.get 25)⟩,
    ⟨some 7, none, .v fun s => some (s.get 24)⟩,
    ⟨some 8, none, .v fun s => some (s.get 26)⟩] K s := (den_reg hf _ K s).trans (by kernel_rfl)
theorem r8_eq (K : List Item) (s : St) : den prog ann 40 (.code r8 :: K) s = mreg prog ann 40 none [] none [] [
    ⟨some 27, none, .v fun s => some (s.get 4)⟩,
    ⟨some 28, none, .v fun s => some (s.get 8)⟩,
    ⟨some 29, none, .v fun s => some (s.get 8)⟩,
    ⟨some 30, none, .v fun s => binA prog .add 9 (s.get 28) (s.get 29)⟩,
    ⟨some 31, none, .c 0 (fun s => (.fn 71 [] [])) fun s => [(s.get 27), (s.get 30)]⟩,
    ⟨some 32, none, .v fun s => some (s.get 7)⟩,
    ⟨some 33, none, .v fun s => binA prog .eql 3 (s.get 31) (s.get 32)⟩] K s := (den_reg hf _ K s).trans (by kernel_rfl)
theorem i2_eq (K : List Item) (s : St) : den prog ann 40 (.code i2 :: K) s = ifV prog ann 40 33 i2t i2e K s (s.get 33) := den_if hf (by kernel_rfl) K s
theorem i2t_eq (K : List Item) (s : St) : den prog ann 40 (.code i2t :: K) s = den prog ann 40 (.code r9 :: K) s := den_flat hf (l := [r9]) (by kernel_rfl) K s
theorem r9_eq (K : List Item) (s : St) : den prog ann 40 (.code r9 :: K) s = mreg prog ann 40 none [] none [] [
    ⟨some 34, none, .v fun s => some (s.get 6)⟩,
    ⟨some 35, none, .v fun s => some (s.get 8)⟩,
    ⟨some 36, none, .v fun s => bslF 1 (bslA 1 1 [.str []] [(0, (s.get 35))])⟩,
    ⟨some 37, none, .w false none fun s => appendA 1 16 s.m (s.get 34) (s.get 36)⟩,
    ⟨some 6, none, .v fun s => some (s.get 37)⟩] K s := (den_reg hf _ K s).trans (by kernel_rfl)
theorem i2e_eq (K : List Item) (s : St) : den prog ann 40 (.code i2e :: K) s = den prog ann 40 (K) s := den_flat hf (l := []) (by kernel_rfl) K s
theorem r10_eq (K : List Item) (s : St) : den prog ann 40 (.code r10 :: K) s = mreg prog ann 40 (some [4, 6, 20, 21, 22]) [] none [] [
    ⟨some 38, none, .v fun s => binA prog .add 3 (s.get 22) (.int .i64 1)⟩,
    ⟨some 22, none, .v fun s => some (s.get 38)⟩] K s := (den_reg hf _ K s).trans (by kernel_rfl)
theorem r11_eq (K : List Item) (s : St) : den prog ann 40 (.code r11 :: K) s = mreg prog ann 40 (some [6]) [] none [] [
    ⟨some 39, none, .v fun s => some (s.get 6)⟩,
    ⟨some 2, none, .v fun s => some (s.get 39)⟩,
    ⟨some 3, none, .v fun s => some (.int .i64 0)⟩] K s := (den_reg hf _ K s).trans (by kernel_rfl)
theorem ret_eq (K : List Item) (s : St) : den prog ann 40 (.code .ret :: K) s = finM true [fun s => some (s.get 2), fun s => some (s.get 3)] s := (den_ret hf K s).trans (by kernel_rfl)
theorem nil_eq (s : St) : den prog ann 40 [] s = finM true [fun s => some (s.get 2), fun s => some (s.get 3)] s := (den_nil hf s).trans (by kernel_rfl)
theorem inBlock_eq (id : Nat) (K : List Item) (s : St) : den prog ann 40 (.inBlock id :: K) s = den prog ann 40 K s := den_inBlock hf id K s
theorem exit_eq (id : Nat) (K : List Item) (s : St) : den prog ann 40 (.code (.exit id) :: K) s = exitV prog ann 40 (exitTo id K) s := den_exitV hf id K s
theorem call_eq (v0 : AV) (m : Mem) (h : closedL [v0] = true) : denC prog ann 40 [v0] m = (den prog ann 40 [.code b] ⟨[(0, v0)], 40, Mem.empty⟩).bind fun r => some (r.1, m) := (denC_pure hf (b := b) (by kernel_rfl) (by kernel_rfl) (by kernel_rfl) h m).trans (by kernel_rfl)
theorem pure_eq : (ann 40).pure = true := by kernel_rfl
attribute [simp] b_eq r0_eq r1_eq r2_eq i0_eq i0t_eq r3_eq i0e_eq r4_eq r5_eq k0_eq l0_eq r6_eq i1_eq i1t_eq i1e_eq k1_eq r7_eq r8_eq i2_eq i2t_eq r9_eq i2e_eq r10_eq r11_eq ret_eq nil_eq inBlock_eq exit_eq pure_eq
end brand_Idempotents

namespace brand_still_to
/-- (pommel/brand.still).to -/
noncomputable def b : Code := (Try.f95.body).getD .skip
theorem hf : prog.funcs[95]? = some Try.f95 := by kernel_rfl
noncomputable def r0 : Code := findReg b 0
noncomputable def r1 : Code := findReg b 1
theorem b_eq (K : List Item) (s : St) : den prog ann 95 (.code b :: K) s = den prog ann 95 (.code r0 :: .code r1 :: .code .ret :: K) s := den_flat hf (l := [r0, r1, .ret]) (by kernel_rfl) K s
theorem r0_eq (K : List Item) (s : St) : den prog ann 95 (.code r0 :: K) s = mreg prog ann 95 none [] none [] [
    ⟨some 2, none, .v fun s => frozenPtr (s.get 0)⟩,
    ⟨some 4, none, .v fun s => some (.int .i64 0)⟩] K s := (den_reg hf _ K s).trans (by kernel_rfl)
theorem r1_eq (K : List Item) (s : St) : den prog ann 95 (.code r1 :: K) s = mreg prog ann 95 none [] none [] [
    ⟨some 5, none, .v fun s => some (s.get 1)⟩,
    ⟨some 4, none, .v fun s => some (s.get 5)⟩] K s := (den_reg hf _ K s).trans (by kernel_rfl)
theorem ret_eq (K : List Item) (s : St) : den prog ann 95 (.code .ret :: K) s = finM true [fun s => some (s.get 4)] s := (den_ret hf K s).trans (by kernel_rfl)
theorem nil_eq (s : St) : den prog ann 95 [] s = finM true [fun s => some (s.get 4)] s := (den_nil hf s).trans (by kernel_rfl)
theorem inBlock_eq (id : Nat) (K : List Item) (s : St) : den prog ann 95 (.inBlock id :: K) s = den prog ann 95 K s := den_inBlock hf id K s
theorem exit_eq (id : Nat) (K : List Item) (s : St) : den prog ann 95 (.code (.exit id) :: K) s = exitV prog ann 95 (exitTo id K) s := den_exitV hf id K s
theorem call_eq (v0 v1 : AV) (m : Mem) (h : closedL [v0, v1] = true) : denC prog ann 95 [v0, v1] m = (den prog ann 95 [.code b] ⟨[(0, v0), (1, v1)], 6, Mem.empty⟩).bind fun r => some (r.1, m) := (denC_pure hf (b := b) (by kernel_rfl) (by kernel_rfl) (by kernel_rfl) h m).trans (by kernel_rfl)
theorem pure_eq : (ann 95).pure = true := by kernel_rfl
attribute [simp] b_eq r0_eq r1_eq ret_eq nil_eq inBlock_eq exit_eq pure_eq
end brand_still_to
end Go.Proofs.Ythnpflkpjimkfaa

/-
  WHAT WORDS DO: moves of states, as keys. Conditions: none.
-/
namespace Go.Proofs.Ythnpflkpjimkfaa
open Go.AM
open Go.Proofs.Try (prog)
set_option linter.all false
set_option maxRecDepth 100000
set_option maxHeartbeats 8000000

theorem IsRows.deep {v : AV} {ps : List AV} {rows : List (List Int)} (h : IsRows v ps rows) (hp : Nat → Option AObj) (d : Nat) : AM.deep hp (d + 1) v = some v := by rcases h.val with ⟨rfl, _⟩ | ⟨_, rfl⟩ <;> rfl
def mvF (n : Nat) (f : Nat → Nat) (c : Nat) : List Nat := (List.range 6).map fun s => if s < c then f s else 0
def mv6 (rows : List (List Int)) (w : List UInt8) : List Nat := mvF rows.length (fun s => goL rows w s) rows.length
@[simp] theorem mv6_len (rows : List (List Int)) (w : List UInt8) : (mv6 rows w).length = 6 := by simp [mv6, mvF]
def nxM (rows : List (List Int)) (t : List Nat) (a : Nat) : List Nat := mvF rows.length (fun s => nx rows (t.getD s 0) a) rows.length
def encM (t : List Nat) : AV := .agg (t.map fun x => .int .i64 (x : Nat))
@[simp] theorem mvF_len (n : Nat) (f : Nat → Nat) (c : Nat) : (mvF n f c).length = 6 := by simp [mvF]
theorem mvF_at {n : Nat} {f : Nat → Nat} {c s : Nat} (h : s < 6) (hc : s < c) : (mvF n f c).getD s 0 = f s := by
  simp [mvF, List.getD_eq_getElem?_getD, h, hc]
theorem mvF_set {n : Nat} {f : Nat → Nat} {c : Nat} (h : c < 6) : ((mvF n f c).map fun x => AV.int .i64 (x : Nat)).set c (.int .i64 (f c : Nat)) = (mvF n f (c + 1)).map fun x => AV.int .i64 (x : Nat) := by
  refine List.ext_getElem (by simp) fun i h1 h2 => ?_
  have hi : i < 6 := by simpa using h2
  rw [List.getElem_set]
  by_cases e : c = i
  · subst e; simp [mvF]
  · simp only [if_neg e, List.getElem_map, mvF, List.getElem_range]
    by_cases q : i < c
    · rw [if_pos q, if_pos (by omega)]
    · rw [if_neg q, if_neg (by omega)]
theorem goL_snoc (rows : List (List Int)) (c : UInt8) : ∀ (w : List UInt8) (s : Nat), goL rows (w ++ [c]) s = nx rows (goL rows w s) (c.toNat - 97)
  | [], s => rfl
  | b :: w, s => by rw [List.cons_append, goL, goL_snoc rows c w, goL]
theorem ltr_sub {a : Nat} (h : a < 3) : (UInt8.ofNat (97 + a)).toNat - 97 = a := by
  have : a = 0 ∨ a = 1 ∨ a = 2 := by omega
  rcases this with rfl | rfl | rfl <;> rfl
theorem goL_ltr (rows : List (List Int)) (w : List UInt8) {a : Nat} (h : a < 3) (s : Nat) : goL rows (w ++ ltr a) s = nx rows (goL rows w s) a := by rw [ltr, goL_snoc, ltr_sub h]
theorem mv6_ltr (rows : List (List Int)) (n6 : rows.length ≤ 6) (w : List UInt8) {a : Nat} (h : a < 3) : mv6 rows (extL w a) = nxM rows (mv6 rows w) a := by
  rw [mv6, nxM, mvF, mvF]
  refine List.map_congr_left fun s hs => ?_
  have hs6 : s < 6 := by simpa using hs
  by_cases q : s < rows.length
  · rw [if_pos q, if_pos q, extL, goL_ltr rows w h, mv6, mvF_at hs6 q]
  · rw [if_neg q, if_neg q]
theorem fl139 : flatT prog 139 = some [3, 3, 3, 3, 3, 3] := by kernel_rfl
theorem eqCs_nat : ∀ (a b : List Nat) (n : Nat), a.length = n → b.length = n → eqCs prog (List.replicate n 3) (a.map fun x => .int .i64 (x : Nat)) (b.map fun x => .int .i64 (x : Nat)) = some (decide (a = b))
  | [], [], 0, _, _ => rfl
  | [], _ :: _, 0, _, h => by simp at h
  | _ :: _, _, 0, h, _ => by simp at h
  | [], _, n + 1, h, _ => by simp at h
  | _ :: _, [], n + 1, _, h => by simp at h
  | x :: a, y :: b, n + 1, h1, h2 => by
    have ih := eqCs_nat a b n (by simpa using h1) (by simpa using h2)
    rw [List.replicate_succ, List.map_cons, List.map_cons, eqCs, sc3, sc3]
    by_cases e : x = y
    · subst e
      simp [eqSc, ih]
    · have : ((x : Int) == (y : Int)) = false := by rw [beq_eq_false_iff_ne]; omega
      simp [eqSc, this, e]
theorem scL_nat : ∀ (a : List Nat) (n : Nat), a.length = n → scL prog (List.replicate n 3) (a.map fun x => .int .i64 (x : Nat)) = true
  | [], 0, _ => rfl
  | _ :: _, 0, h => by simp at h
  | [], n + 1, h => by simp at h
  | x :: a, n + 1, h => by
    have ih := scL_nat a n (by simpa using h)
    rw [List.replicate_succ, List.map_cons, scL, sc3, ih]; rfl
theorem keysM : Keys 139 encM (fun t => t.length = 6) := by
  refine ⟨fun a b ha hb => ?_, fun a ha => ?_⟩
  · have := eqCs_nat a b 6 ha hb
    simp only [keyEq, encM, fl139, Option.bind_some, List.length_map, ha, hb]
    exact this
  · have := scL_nat a 6 ha
    simp only [keyT, encM, fl139, List.length_map, ha]
    exact this
theorem encM_one (t : List Nat) : oneL (t.map fun x => AV.int .i64 (x : Nat)) = true := by
  induction t with
  | nil => rfl
  | cons a t ih => simp [oneL, AV.one, ih]
theorem encM_closed (t : List Nat) : closedL (t.map fun x => AV.int .i64 (x : Nat)) = true := by
  induction t with
  | nil => rfl
  | cons a t ih => simp [closedL, AV.closed, ih]
theorem encM_mapO (h : Nat → Option AObj) (d : Nat) (t : List Nat) : mapO (AM.deep h (d + 1)) (t.map fun x => AV.int .i64 (x : Nat)) = some (t.map fun x => AV.int .i64 (x : Nat)) := mapO_same _ (fun x hx => by
  simp only [List.mem_map] at hx
  obtain ⟨b, _, rfl⟩ := hx
  rfl)
def dsV (rows : List (List Int)) (w : List UInt8) : AV := if w = [] then .iface 142 (.agg []) else .iface 139 (encM (mv6 rows w))
theorem deep_encM (h : Nat → Option AObj) (d t : Nat) (x : List Nat) : AM.deep h (d + 1) (.iface t (.agg (x.map fun x => AV.int .i64 (x : Nat)))) = some (.iface t (.agg (x.map fun x => AV.int .i64 (x : Nat)))) := by
  simp [AM.deep, AV.closed, encM_closed]
theorem does_loop {nv gv wv ov : AV} {ps : List AV} {rows : List (List Int)} {good : List Bool} {k : Nat} (hn : IsRows nv ps rows) (hg : IsB gv good) (v : VB rows good k) {w : List UInt8} (hs : w.length ≤ 1000000) (hl : letF k w w.length 0 = true) : ∀ (c s : Nat) (nx0 : Nat) (h : Nat → Option AObj), s + c = rows.length → h 0 = some (.cells ((mvF rows.length (fun s => goL rows w s) s).map fun x => AV.int .i64 (x : Nat))) →
    brand_monoid_does.L0 (.fptr [nv, gv, wv, ov]) (.str w) (.ptr 0 0 6) (.int .i64 rows.length) (.int .i64 s) ⟨h, nx0⟩ [.code brand_monoid_does.r9, .code .ret] = some (.iface 139 (encM (mv6 rows w)), Mem.empty) := by
  intro c
  have n6 := v.n6
  induction c with
  | zero =>
    intro s nx0 h h1 h0
    have e : s = rows.length := by omega
    subst e
    rw [brand_monoid_does.L0_eq]
    have tk : ((mvF rows.length (fun s => goL rows w s) rows.length).map fun x => AV.int .i64 (x : Nat)).take 6 = (mvF rows.length (fun s => goL rows w s) rows.length).map fun x => AV.int .i64 (x : Nat) := List.take_of_length_le (by simp)
    simp [h0, encM, mv6, tk, deep_encM]
    done
  | succ c ih =>
    intro s nx0 h h1 h0
    have hs' : s < rows.length := by omega
    have hws : IntKind.wrap .i64 ((s : Int) + 1) = (s : Int) + 1 := wrap_id (by omega) (by omega)
    have ha := fun m => after_spec hn hg v hs hl hs' m
    have st := ih (s + 1) nx0 (upd h 0 (some (.cells ((mvF rows.length (fun s => goL rows w s) (s + 1)).map fun x => AV.int .i64 (x : Nat))))) (by omega) (by simp)
    simp only [Int.natCast_add, Int.cast_ofNat_Int] at st
    have hset := mvF_set (n := rows.length) (f := fun s => goL rows w s) (c := s) (by omega)
    rw [brand_monoid_does.L0_eq]
    simp [hs', hn.one, hg.one, hn.closed, hg.closed, ha, h0, hset, hws, st, show s < 6 by omega]
    done
theorem mvF_zero (n : Nat) (f : Nat → Nat) : (mvF n f 0).map (fun x => AV.int .i64 (x : Nat)) = [.int .i64 0, .int .i64 0, .int .i64 0, .int .i64 0, .int .i64 0, .int .i64 0] := by
  simp [mvF, List.range_succ]
theorem does_spec {nv gv wv ov : AV} {ps : List AV} {rows : List (List Int)} {good : List Bool} {k : Nat} (hn : IsRows nv ps rows) (hg : IsB gv good) (v : VB rows good k) (hw : wv.closed = true) (ho : ov.closed = true) {w : List UInt8} (hs : w.length ≤ 1000000) (hl : letF k w w.length 0 = true) (m : Mem) :
    denC prog ann 88 [.fptr [nv, gv, wv, ov], .str w] m = some (dsV rows w, m) := by
  rw [brand_monoid_does.call_eq _ _ _ (by simp [hn.closed, hg.closed, hw, ho])]
  unfold dsV
  by_cases c : w = []
  · subst c
    simp [AM.deep, AV.closed, closedL]
    done
  · have lp := does_loop (wv := wv) (ov := ov) hn hg v hs hl rows.length 0 1 (upd Mem.empty.h 0 (some (.cells [.int .i64 0, .int .i64 0, .int .i64 0, .int .i64 0, .int .i64 0, .int .i64 0]))) (by omega) (by rw [mvF_zero]; simp)
    simp only [Int.ofNat_zero, Int.cast_ofNat_Int] at lp
    simp [c, hn.len, lp]
    done
theorem still_spec (s : Int) (m : Mem) : denC prog ann 95 [.agg [], .int .i64 s] m = some (.int .i64 s, m) := by
  rw [brand_still_to.call_eq _ _ _ (by simp)]
  simp
  done
theorem table_loop {n : Nat} (n6 : n ≤ 6) {K : List Item} : ∀ (c s : Nat) (nx0 : Nat) (h : Nat → Option AObj) (z : Nat) (zs : List AV), s + c = n → z ≠ 2 → zs.length = 6 → h z = some (.cells zs) → h 2 = some (.cells ((mvF n (fun s => s) s).map fun x => AV.int .i64 (x : Nat))) →
    brand_monoid_table.L1 (.ptr z 0 6) (.fptr []) (.ptr 2 0 6) (.int .i64 n) (.int .i64 s) ⟨h, nx0⟩ (.code brand_monoid_table.r13 :: .code .ret :: K) = some (encM (mvF n (fun s => s) n), Mem.empty) := by
  intro c
  induction c with
  | zero =>
    intro s nx0 h z zs h1 hz hzl hzs h0
    have e : s = n := by omega
    subst e
    have tk : ((mvF s (fun s => s) s).map fun x => AV.int .i64 (x : Nat)).take 6 = (mvF s (fun s => s) s).map fun x => AV.int .i64 (x : Nat) := List.take_of_length_le (by simp)
    rw [brand_monoid_table.L1_eq]
    simp [h0, hzs, hzl, encM, tk, encM_one, encM_mapO]
    done
  | succ c ih =>
    intro s nx0 h z zs h1 hz hzl hzs h0
    have hs' : s < n := by omega
    have hws : IntKind.wrap .i64 ((s : Int) + 1) = (s : Int) + 1 := wrap_id (by omega) (by omega)
    have st := ih (s + 1) nx0 (upd h 2 (some (.cells ((mvF n (fun s => s) (s + 1)).map fun x => AV.int .i64 (x : Nat))))) z zs (by omega) hz hzl (by rw [updNe hz]; exact hzs) (by simp)
    simp only [Int.natCast_add, Int.cast_ofNat_Int] at st
    have hset := mvF_set (n := n) (f := fun s => s) (c := s) (by omega)
    rw [brand_monoid_table.L1_eq]
    simp [hs', still_spec, h0, hset, hws, st, show s < 6 by omega]
    done
theorem mv6_nil (rows : List (List Int)) : mv6 rows [] = mvF rows.length (fun s => s) rows.length := rfl
theorem table_spec {nv gv wv ov : AV} {ps : List AV} {rows : List (List Int)} {good : List Bool} {k : Nat} (hn : IsRows nv ps rows) (hg : IsB gv good) (v : VB rows good k) (hw : wv.closed = true) (ho : ov.closed = true) (w : List UInt8) (m : Mem) :
    denC prog ann 87 [.fptr [nv, gv, wv, ov], dsV rows w] m = some (encM (mv6 rows w), m) := by
  have n6 := v.n6
  have hcl : (dsV rows w).closed = true := by
    unfold dsV encM
    split
    · rfl
    · simp [AV.closed, encM_closed]
  rw [brand_monoid_table.call_eq _ _ _ (by simp [hn.closed, hg.closed, hw, ho, hcl])]
  unfold dsV
  by_cases c : w = []
  · subst c
    have st := table_loop n6 (K := [.inBlock 0, .code brand_monoid_table.r14, .code .ret]) rows.length 0 3 (upd (upd (upd (upd Mem.empty.h 0 (some (.cells [.int .i64 0, .int .i64 0, .int .i64 0, .int .i64 0, .int .i64 0, .int .i64 0]))) 1 (some (.cells []))) 1 none) 2 (some (.cells [.int .i64 0, .int .i64 0, .int .i64 0, .int .i64 0, .int .i64 0, .int .i64 0]))) 0 _ (by omega) (by omega) rfl (by simp; rfl) (by rw [mvF_zero]; simp)
    simp only [Int.ofNat_zero, Int.cast_ofNat_Int, ← mv6_nil] at st
    simp [hn.len, tyA]
    simp at st
    rw [st]
    rfl
  · have tk : ((mv6 rows w).map fun x => AV.int .i64 (x : Nat)).take 6 = (mv6 rows w).map fun x => AV.int .i64 (x : Nat) := List.take_of_length_le (by simp)
    simp [c, tyA, encM, encM_one, encM_mapO, encM_closed, tk]
    done
end Go.Proofs.Ythnpflkpjimkfaa

/-
  ALL ELEMENTS OF A MONOID: the law of the search, and the program's memory. Conditions: none.
-/
namespace Go.Proofs.Ythnpflkpjimkfaa
open Go.AM
open Go.Proofs.Try (prog)
set_option linter.all false
set_option maxRecDepth 100000
set_option maxHeartbeats 8000000

def okW (k : Nat) (w : List UInt8) : Prop := ∀ c ∈ w, 97 ≤ c.toNat ∧ c.toNat - 97 < k
theorem letF_iff (k : Nat) (s : List UInt8) : letF k s s.length 0 = true ↔ okW k s := by
  have hb : ∀ i (h : i < s.length), byt s i = s[i].toNat := fun i h => by simp [byt, h]
  simp only [letF, List.all_eq_true, List.mem_range'_1, letB, Bool.and_eq_true, decide_eq_true_eq, okW]
  constructor
  · intro h c hc
    obtain ⟨i, hi, rfl⟩ := List.getElem_of_mem hc
    have := h i ⟨by omega, by omega⟩
    rwa [hb i hi] at this
  · intro h i hi
    have hi' : i < s.length := by omega
    rw [hb i hi']
    exact h _ (List.getElem_mem hi')
theorem okW_ext {k a : Nat} {w : List UInt8} (h : okW k w) (ha : a < k) (hk : k ≤ 3) : okW k (extL w a) := by
  intro c hc
  rcases List.mem_append.1 hc with hc | hc
  · exact h c hc
  · simp [ltr] at hc
    subst hc
    have : a = 0 ∨ a = 1 ∨ a = 2 := by omega
    rcases this with rfl | rfl | rfl <;> exact ⟨by decide, by simpa using ha⟩
theorem okW_nil (k : Nat) : okW k [] := by simp [okW]
theorem okW_app {k : Nat} {u w : List UInt8} (h : okW k u) (g : okW k w) : okW k (u ++ w) := fun c hc => by
  rcases List.mem_append.1 hc with hc | hc
  · exact h c hc
  · exact g c hc
abbrev SM := List (List Nat) × List (List UInt8)
def bInM (rows : List (List Int)) (x : List Nat) (w : List UInt8) : Nat → Nat → SM → Option SM
  | 0, _, S => some S
  | c + 1, a, S => if nxM rows x a ∈ S.1 then bInM rows x w c (a + 1) S else if S.1.length = 400 then none else bInM rows x w c (a + 1) (S.1 ++ [nxM rows x a], S.2 ++ [extL w a])
def bfsM (rows : List (List Int)) (k : Nat) : Nat → Nat → SM → Option SM
  | 0, _, S => some S
  | f + 1, i, S => match S.1[i]?, S.2[i]? with
    | some x, some w => (bInM rows x w k 0 S).bind fun S' => bfsM rows k f (i + 1) S'
    | _, _ => some S
def madeS (rows : List (List Int)) (k : Nat) : Option SM := bfsM rows k 401 0 ([mv6 rows []], [[]])
structure MOk (rows : List (List Int)) (k : Nat) (S : SM) : Prop where
  nd : S.1.Nodup
  eq : S.1 = S.2.map (mv6 rows)
  ok : ∀ w ∈ S.2, okW k w ∧ w.length ≤ S.2.length
  le : S.1.length ≤ 400
section
variable {rows : List (List Int)} {k : Nat} {S : SM}
theorem MOk.len (h : MOk rows k S) : S.1.length = S.2.length := by rw [h.eq]; simp
theorem MOk.at (h : MOk rows k S) {i : Nat} {x : List Nat} {w : List UInt8} (h1 : S.1[i]? = some x) (h2 : S.2[i]? = some w) : x = mv6 rows w := by
  rw [h.eq, List.getElem?_map, h2] at h1
  exact (Option.some.inj h1).symm
theorem MOk.six (h : MOk rows k S) : ∀ x ∈ S.1, x.length = 6 := by
  rw [h.eq]
  intro x hx
  simp only [List.mem_map] at hx
  obtain ⟨w, _, rfl⟩ := hx
  simp
theorem MOk.add (h : MOk rows k S) (n6 : rows.length ≤ 6) (k3 : k ≤ 3) {w : List UInt8} {a : Nat} (hw : w ∈ S.2) (ha : a < k) (hn : nxM rows (mv6 rows w) a ∉ S.1) (hl : S.1.length ≠ 400) : MOk rows k (S.1 ++ [nxM rows (mv6 rows w) a], S.2 ++ [extL w a]) := by
  have hle := h.le
  have hlen := h.len
  refine ⟨?_, ?_, ?_, ?_⟩
  · rw [List.nodup_append]
    refine ⟨h.nd, by simp, ?_⟩
    intro x hx y hy
    simp at hy
    subst hy
    exact fun e => hn (e ▸ hx)
  · simp only [List.map_append, List.map_cons, List.map_nil]
    rw [← h.eq, mv6_ltr rows n6 w (by omega)]
  · intro u hu
    rcases List.mem_append.1 hu with hu | hu
    · have := h.ok u hu
      exact ⟨this.1, by simp; omega⟩
    · simp at hu
      subst hu
      have := h.ok w hw
      exact ⟨okW_ext this.1 ha k3, by simp [extL, ltr]; omega⟩
  · simp; omega
theorem bInM_ok (n6 : rows.length ≤ 6) (k3 : k ≤ 3) {w : List UInt8} : ∀ (c a : Nat) (S S' : SM), a + c ≤ k → MOk rows k S → w ∈ S.2 → bInM rows (mv6 rows w) w c a S = some S' → MOk rows k S' ∧ (∃ p q, S'.1 = S.1 ++ p ∧ S'.2 = S.2 ++ q) ∧ ∀ b, a ≤ b → b < a + c → nxM rows (mv6 rows w) b ∈ S'.1
  | 0, a, S, S', _, h, hw, e => by
    simp only [bInM, Option.some.injEq] at e
    subst e
    exact ⟨h, ⟨[], [], by simp, by simp⟩, by omega⟩
  | c + 1, a, S, S', hc, h, hw, e => by
    rw [bInM] at e
    by_cases q : nxM rows (mv6 rows w) a ∈ S.1
    · rw [if_pos q] at e
      obtain ⟨h1, ⟨p, r, h2, h3⟩, h4⟩ := bInM_ok n6 k3 c (a + 1) S S' (by omega) h hw e
      refine ⟨h1, ⟨p, r, h2, h3⟩, fun b b1 b2 => ?_⟩
      by_cases ba : b = a
      · subst ba; rw [h2]; exact List.mem_append_left _ q
      · exact h4 b (by omega) (by omega)
    · rw [if_neg q] at e
      by_cases q2 : S.1.length = 400
      · rw [if_pos q2] at e; cases e
      · rw [if_neg q2] at e
        obtain ⟨h1, ⟨p, r, h2, h3⟩, h4⟩ := bInM_ok n6 k3 c (a + 1) _ S' (by omega) (h.add n6 k3 hw (by omega) q q2) (by simp [hw]) e
        refine ⟨h1, ⟨nxM rows (mv6 rows w) a :: p, extL w a :: r, by rw [h2]; simp, by rw [h3]; simp⟩, fun b b1 b2 => ?_⟩
        by_cases ba : b = a
        · subst ba; rw [h2]; simp
        · exact h4 b (by omega) (by omega)
theorem bfsM_ok (n6 : rows.length ≤ 6) (k3 : k ≤ 3) : ∀ (f i : Nat) (S S' : SM), MOk rows k S → i ≤ S.1.length → 400 < f + i → (∀ x ∈ S.1.take i, ∀ a, a < k → nxM rows x a ∈ S.1) → bfsM rows k f i S = some S' → MOk rows k S' ∧ (∃ p q, S'.1 = S.1 ++ p ∧ S'.2 = S.2 ++ q) ∧ ∀ x ∈ S'.1, ∀ a, a < k → nxM rows x a ∈ S'.1 := by
  intro f
  induction f with
  | zero => intro i S S' h hi hf; have := h.le; omega
  | succ f ih =>
    intro i S S' h hi hf hcl e
    by_cases c : i < S.1.length
    · have hx := List.getElem?_eq_getElem c
      have c2 : i < S.2.length := by rw [← h.len]; exact c
      have hw := List.getElem?_eq_getElem c2
      generalize S.1[i] = x at hx
      generalize S.2[i] = w at hw
      have hxw := h.at hx hw
      subst hxw
      rw [bfsM, hx, hw] at e
      simp only [] at e
      cases e1 : bInM rows (mv6 rows w) w k 0 S with
      | none => rw [e1] at e; cases e
      | some S1 =>
        rw [e1, Option.bind_some] at e
        obtain ⟨h1, ⟨p, r, h2, h3⟩, h4⟩ := bInM_ok n6 k3 k 0 S S1 (by omega) h (List.mem_of_getElem? hw) e1
        have ht : S1.1.take (i + 1) = S.1.take i ++ [mv6 rows w] := by rw [h2, List.take_append_of_le_length (by omega), List.take_add_one, hx]; rfl
        obtain ⟨g1, ⟨p', r', g2, g3⟩, g4⟩ := ih (i + 1) S1 S' h1 (by rw [h2]; simp; omega) (by omega) (by
          rw [ht]
          intro y hy a ha
          rcases List.mem_append.1 hy with hy | hy
          · rw [h2]; exact List.mem_append_left _ (hcl y hy a ha)
          · simp at hy
            subst hy
            exact h4 a (by omega) (by omega)) e
        exact ⟨g1, ⟨p ++ p', r ++ r', by rw [g2, h2, List.append_assoc], by rw [g3, h3, List.append_assoc]⟩, g4⟩
    · have hx : S.1[i]? = none := List.getElem?_eq_none (by omega)
      rw [bfsM, hx] at e
      simp only [Option.some.injEq] at e
      subst e
      refine ⟨h, ⟨[], [], by simp, by simp⟩, fun x hx a ha => hcl x ?_ a ha⟩
      rw [List.take_of_length_le (by omega)]; exact hx
theorem MOk1 (rows : List (List Int)) (k : Nat) : MOk rows k ([mv6 rows []], [[]]) := ⟨by simp, rfl, by intro w hw; simp at hw; subst hw; exact ⟨okW_nil k, by simp⟩, by simp⟩
theorem madeS_ok (n6 : rows.length ≤ 6) (k3 : k ≤ 3) {S : SM} (h : madeS rows k = some S) : MOk rows k S ∧ (∃ p q, S.1 = [mv6 rows []] ++ p ∧ S.2 = [[]] ++ q) ∧ ∀ x ∈ S.1, ∀ a, a < k → nxM rows x a ∈ S.1 :=
  bfsM_ok n6 k3 401 0 _ S (MOk1 rows k) (by simp) (by omega) (by simp) h
end
/-! ### A list that is frozen at first -/
def isF : AV → Bool
  | .fsl .. => true
  | _ => false
def Nf (h : Nat → Option AObj) (v : AV) (xs : List AV) (lo hi : Nat) : Prop := v = .fsl true xs.length xs ∨ ∃ R, v = .sl R 1 0 xs.length xs.length ∧ h R = some (.cells xs) ∧ lo ≤ R ∧ R < hi
section
variable {h h' : Nat → Option AObj} {v : AV} {xs : List AV} {lo hi hi' : Nat}
theorem Nf.fr (n : Nf h v xs lo hi) (e : ∀ y, lo ≤ y → y < hi → objId v = some y → h' y = h y) (l : hi ≤ hi') : Nf h' v xs lo hi' := by
  rcases n with rfl | ⟨R, rfl, h1, h2, h3⟩
  · exact .inl rfl
  · exact .inr ⟨R, rfl, by rw [e R h2 h3 rfl, h1], h2, by omega⟩
theorem Nf.one (n : Nf h v xs lo hi) : v.one = true := by
  rcases n with rfl | ⟨R, rfl, h1, h2, h3⟩ <;> rfl
theorem Nf.oid (n : Nf h v xs lo hi) {y : Nat} (e : objId v = some y) : lo ≤ y ∧ y < hi := by
  rcases n with rfl | ⟨R, rfl, h1, h2, h3⟩
  · cases e
  · simp [objId] at e; omega
theorem Nf.len (n : Nf h v xs lo hi) : lenSl v = some (.int .i64 xs.length) := by
  rcases n with rfl | ⟨R, rfl, h1, h2, h3⟩ <;> rfl
theorem Nf.at (n : Nf h v xs lo hi) {i : Nat} (hi' : i < xs.length) : ∃ p, idxSl 1 v (.int .i64 i) = some p ∧ (∀ nx, loadA false 1 ⟨h, nx⟩ p = xs[i]?) ∧ objId p = objId v := by
  rcases n with rfl | ⟨R, rfl, h1, h2, h3⟩
  · exact ⟨.fptr (xs.drop i), by simp [hi'], fun nx => by simp [loadA, readN, read1, List.head?_drop], rfl⟩
  · exact ⟨.ptr R i xs.length, by simp [hi'], fun nx => by simp [h1], rfl⟩
theorem Nf.deep (n : Nf h v xs lo hi) (d : Nat) (hd : ∀ x ∈ xs, AM.deep h d x = some x) : AM.deep h (d + 1) v = some (.fsl (isF v) xs.length xs) := by
  rcases n with rfl | ⟨R, rfl, h1, h2, h3⟩
  · rfl
  · simp [AM.deep, h1, mapO_same xs hd, isF]
theorem Nf.app {nx by' : Nat} (n : Nf h v xs lo hi) (hh : hi ≤ nx) (hl : lo ≤ nx) (hr : room (xs.length + 1) by' = true) (y : AV) :
    ∃ v' h' nx', appT 1 by' ⟨h, nx⟩ v (some (1, [y])) = some (v', ⟨h', nx'⟩) ∧ Nf h' v' (xs ++ [y]) lo nx' ∧ nx ≤ nx' ∧ nx' ≤ nx + 1 ∧ (∀ z, objId v' = some z → objId v = some z ∨ z = nx) ∧ (∀ z, objId v' ≠ some z → h' z = h z) ∧ isF v' = false := by
  rcases n with rfl | ⟨R, rfl, h1, h2, h3⟩
  · refine ⟨.sl nx 1 0 (xs.length + 1) (xs.length + 1), upd h nx (some (.cells (xs ++ [y]))), nx + 1, ?_, .inr ⟨nx, by simp, by simp, hl, by omega⟩, by omega, by omega, fun z e => .inr (by simp [objId] at e; omega), fun z e => updNe (fun q => e (by rw [q]; rfl)), rfl⟩
    simp at hr
    simp [Mem.new, hr]
  · refine ⟨.sl R 1 0 (xs.length + 1) (xs.length + 1), upd h R (some (.cells (xs ++ [y]))), nx, ?_, .inr ⟨R, by simp, by simp, h2, by omega⟩, by omega, by omega, fun z e => .inl e, fun z e => updNe (fun q => e (by rw [q]; rfl)), rfl⟩
    simp at hr
    simp [h1, hr.1, hr.2]
end
end Go.Proofs.Ythnpflkpjimkfaa
