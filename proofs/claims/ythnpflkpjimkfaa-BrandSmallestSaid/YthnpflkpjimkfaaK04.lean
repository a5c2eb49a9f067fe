/-
  THE SMALLEST FORM: what the specification returns. Conditions: none.
-/
import Derived.Test.YthnpflkpjimkfaaK03
import Derived.Test.YthnpflkpjimkfaaKAmH
import Derived.Test.YthnpflkpjimkfaaK01
set_option linter.all false
namespace Go.Proofs.Ythnpflkpjimkfaa
open Go.AM
open Go.Proofs.Try (prog)
set_option linter.all false
set_option maxRecDepth 100000
set_option maxHeartbeats 8000000

noncomputable def KU4 : List Item := [.code r07_Smallest.r26, .code .ret]
noncomputable def KU6 : List Item := .code r07_Smallest.r25 :: .inBlock 5 :: .code r07_Smallest.r19 :: .inLoop r07_Smallest.l4 :: .inBlock 4 :: KU4
theorem rs_r {nv gv : AV} {ps : List AV} {rows : List (List Int)} {good : List Bool} {k : Nat} (hn : IsRows nv ps rows) (v : VB rows good k) {al : Nat → Nat → Bool} {R F : List Nat} (hRc : ∀ s ∈ R, ∀ a, a < k → nx rows s a ∈ R) {Na : List Int} (hNl : Na.length = rows.length) (hNa : ∀ s ∈ R, nth Na s = idxA al F s) {x2 x10 : AV} {N f kk q : Nat} (hkk : kk < F.length) (hF6 : F.length ≤ 6) (hq : F[kk]? = some q) (hqn : q < rows.length) (hqR : q ∈ R) {Rr : Nat} (h1N : Rr ≠ N) (h1f : Rr ≠ f) {r : Res} :
    ∀ (c a : Nat) (h : Nat → Option AObj) (nx0 : Nat), a + c = k → h N = some (.cells (ints Na)) → h f = some (.cells (F.map encS)) → h Rr = some (.cells (rowV al rows F q a)) → Rr < nx0 →
    (∀ h' nx', h' Rr = some (.cells (rowV al rows F q k)) → nx0 ≤ nx' → (∀ y, y ≠ Rr → h' y = h y) →
      r07_Smallest.L6 (.fptr [nv, gv]) x2 (.sl N 1 0 rows.length rows.length) (.sl f 1 0 F.length F.length) x10 (.int .i64 kk) (.sl Rr 1 0 k k) (.int .i64 k) ⟨h', nx'⟩ KU6 = some r) →
    r07_Smallest.L6 (.fptr [nv, gv]) x2 (.sl N 1 0 rows.length rows.length) (.sl f 1 0 F.length F.length) x10 (.int .i64 kk) (.sl Rr 1 0 a a) (.int .i64 a) ⟨h, nx0⟩ KU6 = some r := by
  intro c
  have n6 := v.n6
  have k3 := v.k3
  have i0 := hn.idx (i := 0) v.n1 .i64
  have j0 := hn.head (i := 0) v.n1
  have iw0 := hn.row 0 v.n1
  have r0 := v.rl 0 v.n1
  simp only [Int.ofNat_zero, Int.cast_ofNat_Int, List.drop_zero] at i0 j0
  have hxe := (List.getElem?_eq_some_iff.1 hq).2
  induction c with
  | zero =>
    intro a h nx0 h1 hN hf hR hR0 hk
    have e : a = k := by omega
    subst e
    exact hk h nx0 hR (Nat.le_refl _) (fun _ _ => rfl)
  | succ c ih =>
    intro a h nx0 h1 hN hf hR hR0 hk
    have ha : a < k := by omega
    have hwa : IntKind.wrap .i64 ((a : Int) + 1) = (a : Int) + 1 := wrap_id (by omega) (by omega)
    obtain ⟨c1, c2⟩ := nx_lt v hqn ha
    have b1 := v.rl q hqn
    have iw1 := hn.row q hqn
    have d1 := iw1.idx (i := a) (by omega) .i64
    have e1 := ints_head (l := cth rows q) (i := a) (by omega)
    rw [c2] at e1
    have hval := hNa (nx rows q a) (hRc q hqR a ha)
    have hg : Na[nx rows q a]'(by omega) = ((idxA al F (nx rows q a) : Nat) : Int) := by rw [← hval]; exact nth_get (by omega)
    have hlen : (rowV al rows F q a).length = a := by simp [rowV]
    have hlen1 : (rowV al rows F q (a + 1)).length = a + 1 := by simp [rowV]
    have erow : rowV al rows F q a ++ [.int .i64 (idxA al F (nx rows q a) : Nat)] = rowV al rows F q (a + 1) := by simp [rowV, List.range_succ]
    have st := ih (a + 1) (upd h Rr (some (.cells (rowV al rows F q (a + 1))))) (nx0 + 18) (by omega) (by rw [updNe h1N.symm]; exact hN) (by rw [updNe h1f.symm]; exact hf) (by simp) (by omega) (fun h' nx' g1 g2 g3 => hk h' nx' g1 (by omega) (fun y hy => by rw [g3 y hy, updNe hy]))
    simp only [Int.natCast_add, Int.cast_ofNat_Int] at st
    rw [r07_Smallest.L6_eq]
    simp [ha, i0, j0, iw0.len, r0, hkk, hf, hxe, encS, hn.idx hqn, hn.head hqn, d1, e1, c1, hN, hNl, hval, hR, hlen, show a ≤ 4611686018427387903 by omega, show (a + 1) * 8 ≤ 70368744177664 by omega, erow, hlen1, hwa, st]
    done
theorem frz_122_126 (s : St) : frz1 s 3122126 = bif ap (objId (s.get 122)) (objId (s.get 126)) then some s else none := by rw [← ap_eq]; rfl
theorem frz_124 (s : St) : frz1 s 2000124 = bif nsl (s.get 124) then some s else none := rfl
theorem frz_122_132 (s : St) : frz1 s 3122132 = bif ap (objId (s.get 122)) (objId (s.get 132)) then some s else none := by rw [← ap_eq]; rfl
theorem rs_w {nv gv : AV} {ps : List AV} {rows : List (List Int)} {good : List Bool} {k : Nat} (hn : IsRows nv ps rows) (hg : IsB gv good) (v : VB rows good k) {al : Nat → Nat → Bool} {R F : List Nat} (hRc : ∀ s ∈ R, ∀ a, a < k → nx rows s a ∈ R) {Na : List Int} (hNl : Na.length = rows.length) (hNa : ∀ s ∈ R, nth Na s = idxA al F s) (hF6 : F.length ≤ 6) (hFR : ∀ s ∈ F, s ∈ R ∧ s < rows.length) (hpos : 0 < F.length)
    {N f o z0 lo : Nat} (hNlo : N < lo) (hflo : f < lo) (ho : o < lo) (hz : z0 < lo) (hoN : o ≠ N) (hof : o ≠ f) (hoz : o ≠ z0) :
    ∀ (c kk : Nat) (h : Nat → Option AObj) (nx0 : Nat) (a g : AV), kk + c = F.length → h N = some (.cells (ints Na)) → h f = some (.cells (F.map encS)) → lo ≤ nx0 → Ox h o z0 a g (outR al rows k F kk) (outG good F kk) lo nx0 →
    r07_Smallest.L4 (.fptr [nv, gv]) (.ptr z0 0 2) (.sl N 1 0 rows.length rows.length) (.sl f 1 0 F.length F.length) (.ptr o 0 2) (.int .i64 kk) ⟨h, nx0⟩ KU4 = some (resV al rows good k F, Mem.empty) := by
  intro c
  have n6 := v.n6
  have k3 := v.k3
  have i0 := hn.idx (i := 0) v.n1 .i64
  have j0 := hn.head (i := 0) v.n1
  have iw0 := hn.row 0 v.n1
  have r0 := v.rl 0 v.n1
  simp only [Int.ofNat_zero, Int.cast_ofNat_Int, List.drop_zero] at i0 j0
  induction c with
  | zero =>
    intro kk h nx0 a g h1 hN hf hlo O
    have e : kk = F.length := by omega
    subst e
    have e1 : F.take F.length = F := List.take_length
    have hne : F ≠ [] := by intro e; rw [e] at hpos; simp at hpos
    have na : Nl (upd h z0 (some (AObj.cells [a, g]))) a (outR al rows k F F.length) lo nx0 := O.na.fr (fun y y1 _ _ => updNe (by omega)) (Nat.le_refl _)
    have ng : Nl (upd h z0 (some (AObj.cells [a, g]))) g (outG good F F.length) lo nx0 := O.ng.fr (fun y y1 _ _ => updNe (by omega)) (Nat.le_refl _)
    have da := na.deep 4 (fun x hx => by
      simp only [outR, List.mem_map] at hx
      obtain ⟨q, _, rfl⟩ := hx
      simp [AM.deep, rowF, rowV_closed]) (na.nn (by simp [outR, hne]))
    have dg := ng.deep 4 (fun x hx => by
      simp only [outG, List.mem_map] at hx
      obtain ⟨q, _, rfl⟩ := hx
      simp [AM.deep]) (ng.nn (by simp [outG, hne]))
    rw [r07_Smallest.L4_eq]
    simp [O.o, O.z, O.na.one, O.ng.one, KU4]
    simp [da, dg, resV, outR, outG]
    done
  | succ c ih =>
    intro kk h nx0 a g h1 hN hf hlo O
    have hkk : kk < F.length := by omega
    have hq := List.getElem?_eq_getElem hkk
    generalize F[kk] = q at hq
    obtain ⟨hqR, hqn⟩ := hFR q (List.mem_of_getElem? hq)
    have htk1 : F.take (kk + 1) = F.take kk ++ [q] := by rw [List.take_add_one, hq]; rfl
    have eR : outR al rows k F kk ++ [rowF al rows k F q] = outR al rows k F (kk + 1) := by
      rw [outR, outR, htk1, List.map_append]; rfl
    have eG : outG good F kk ++ [.bool (bnth good q)] = outG good F (kk + 1) := by
      rw [outG, outG, htk1, List.map_append]; rfl
    have oa := fun y e => (O.na.oid (y := y) e)
    have og := fun y e => (O.ng.oid (y := y) e)
    have st := rs_r (gv := gv) (x2 := .ptr z0 0 2) (x10 := .ptr o 0 2) (kk := kk) (q := q) (N := N) (f := f) hn v hRc hNl hNa hkk hF6 hq hqn hqR (Rr := nx0) (by omega) (by omega) (r := (resV al rows good k F, Mem.empty)) k 0 (upd h nx0 (some (.cells []))) (nx0 + 1) (by omega) (by rw [updNe (by omega)]; exact hN) (by rw [updNe (by omega)]; exact hf) (by simp [rowV]) (by omega) (fun h' nx' w1 hnx' hfr0 => by
      have hfr : ∀ y, y ≠ nx0 → h' y = h y := fun y hy => by rw [hfr0 y hy, updNe hy]
      have rl : (rowV al rows F q k).length = k := by simp [rowV]
      have na1 : Nl (upd h' nx0 none) a (outR al rows k F kk) lo nx0 := O.na.fr (fun y y1 y2 _ => by rw [updNe (by omega), hfr y (by omega)]) (Nat.le_refl _)
      have lR : (outR al rows k F kk).length ≤ 6 := by simp [outR]; omega
      have lG : (outG good F kk).length ≤ 6 := by simp [outG]; omega
      obtain ⟨v1, h2, n2, g1, g2, g3, g4, g5, g6, g7⟩ := na1.app (nx := nx' + 4) (by' := 24) (by omega) (by omega) (by simp; omega) (rowF al rows k F q)
      have hv1 : ∀ y, objId v1 = some y → lo ≤ y ∧ (y < nx0 ∨ y = nx' + 4) := fun y e => by
        rcases g5 y e with q | q
        · have := oa y q; omega
        · omega
      have ng1 : Nl h2 g (outG good F kk) lo nx0 := O.ng.fr (fun y y1 y2 ye => by
        rw [g6 y (fun e => by
          rcases g5 y e with q | q
          · exact O.dj y q ye
          · omega), updNe (by omega), hfr y (by omega)]) (Nat.le_refl _)
      obtain ⟨v2, h3, n3, u1, u2, u3, u4, u5, u6, u7⟩ := ng1.app (nx := nx' + 16) (by' := 1) (by omega) (by omega) (by simp; omega) (.bool (bnth good q))
      have hv2 : ∀ y, objId v2 = some y → lo ≤ y ∧ (objId g = some y ∨ y = nx' + 16) := fun y e => by
        rcases u5 y e with q | q
        · have := og y q; exact ⟨this.1, .inl q⟩
        · exact ⟨by omega, .inr q⟩
      have low : ∀ y, y < lo → h3 y = h y := fun y hy => by
        rw [u6 y (fun e => by have := hv2 y e; omega), g6 y (fun e => by have := hv1 y e; omega), updNe (by omega), hfr y (by omega)]
      have lo2 : ∀ y, y < lo → h2 y = h y := fun y hy => by
        rw [g6 y (fun e => by have := hv1 y e; omega), updNe (by omega), hfr y (by omega)]
      have ho' : h' o = some (.cells [a, g]) := by rw [hfr o (by omega)]; exact O.o
      have ho2 : h2 o = some (.cells [a, g]) := by rw [lo2 o ho]; exact O.o
      have ho3 : h3 o = some (.cells [a, g]) := by rw [low o ho]; exact O.o
      have hf2 : h2 f = some (.cells (F.map encS)) := by rw [lo2 f hflo]; exact hf
      have a1 := ap_lt (z := o) (fun y e => (oa y e).1) ho
      have a3 := ap_lt (z := f) (fun y e => (oa y e).1) hflo
      have bq := bls_head (bs := good) (i := q) (by rw [v.gl]; exact hqn)
      have hwk : IntKind.wrap .i64 ((kk : Int) + 1) = (kk : Int) + 1 := wrap_id (by omega) (by omega)
      have fin4 : ∀ y, y < lo → y ≠ o → (upd h3 o (some (.cells [v1, v2]))) y = h y := fun y y1 y2 => by rw [updNe y2, low y y1]
      have st3 := ih (kk + 1) (upd h3 o (some (.cells [v1, v2]))) (nx' + 21) v1 v2 (by omega) (by rw [fin4 N hNlo hoN.symm]; exact hN) (by rw [fin4 f hflo hof.symm]; exact hf) (by omega)
        ⟨by simp, by rw [fin4 z0 hz hoz.symm]; exact O.z,
          by
            rw [← eR]
            exact g2.fr (fun y y1 y2 ye => by
              rw [updNe (by omega), u6 y (fun e => by
                rcases (hv2 y e).2 with q | q
                · rcases g5 y ye with w | w
                  · exact O.dj y w q
                  · have := og y q; omega
                · have := (hv1 y ye).2; omega)]) (by omega),
          by
            rw [← eG]
            exact u2.fr (fun y y1 y2 ye => by rw [updNe (by omega)]) (by omega),
          fun y e1 e2 => by
            rcases (hv2 y e2).2 with q | q
            · rcases g5 y e1 with w | w
              · exact O.dj y w q
              · have := og y q; omega
            · have := (hv1 y e1).2; omega⟩
      simp only [Int.natCast_add, Int.cast_ofNat_Int] at st3
      have hoR : (o == nx0) = false := beq_eq_false_iff_ne.2 (by omega)
      have rtk : (rowV al rows F q k).take k = rowV al rows F q k := List.take_of_length_le (by omega)
      have hxe := (List.getElem?_eq_some_iff.1 hq).2
      simp only [rowF] at g1
      rw [r07_Smallest.L6_eq]
      simp [KU6, i0, j0, iw0.len, r0, w1, rowV_closed, rl, rtk, hoR, ho', ho2, ho3, g1, O.na.one, O.ng.one, hf2, hkk, hxe, u1, (show v1.one = true from g2.one), (show v2.one = true from u2.one), frz_122_126, frz_124, frz_122_132, nsl, a1, a3, hwk, st3, encS, hg.idx (i := q) (by rw [v.gl]; exact hqn), bq, frzL]
      done)
    simp only [Int.ofNat_zero, Int.cast_ofNat_Int, KU6] at st
    rw [r07_Smallest.L4_eq]
    simp [hkk]
    exact st
theorem rsmallest_spec {nv gv : AV} {ps : List AV} {rows : List (List Int)} {good : List Bool} {k : Nat} (hn : IsRows nv ps rows) (hg : IsB gv good) (v : VB rows good k) (m : Mem) :
    denC prog ann 29 [.agg [nv, gv]] m = some (resV (alB rows good k) rows good k (repL rows good k), m) := by
  have n1 := v.n1
  have n6 := v.n6
  have h1 := fun m => reached_spec hn hg v m
  have h2 := fun m => alike_spec hn hg v m
  obtain ⟨L1, L2⟩ := lkR_end v
  obtain ⟨R1, R2⟩ := rch_ok v
  have R6 := few6 n6 R1.nd R1.all
  have hF6 : (repL rows good k).length ≤ 6 := by
    have := ded_len (al := alB rows good k) (rchS rows k).1 []
    have e : (repL rows good k).length ≤ 0 + (rchS rows k).1.length := this
    omega
  have hFR : ∀ s ∈ repL rows good k, s ∈ (rchS rows k).1 ∧ s < rows.length := fun s hs => ⟨ded_mem hs, R1.all s (ded_mem hs)⟩
  have hpos : 0 < (repL rows good k).length := by
    have h0 : 0 ∈ (rchS rows k).1 := by
      have hp : ∀ (f i : Nat) (S : List Nat × List (List UInt8)), 0 ∈ S.1 → 0 ∈ (bfsA (nx rows) extL k f i S).1 := by
        intro f
        induction f with
        | zero => intro i S h; exact h
        | succ f ih =>
          intro i S h
          rw [bfsA]
          split
          · rename_i x w _ _
            obtain ⟨p, _, e1, _⟩ := bIn_pre (nx rows) extL x w k 0 S
            exact ih _ _ (by rw [e1]; exact List.mem_append_left _ h)
          · exact h
      exact hp _ _ _ (by simp)
    have := ded_any (lik_alB v) (rchS rows k).1 R1.all 0 h0
    obtain ⟨u, hu, _⟩ := List.any_eq_true.1 this
    exact List.length_pos_of_mem hu
  have st := rs_o (x1 := .fptr [nv, gv]) (x2 := .ptr 0 0 2) n6 (lik_alB v) L1 L2 R1.nd R1.all (N := 1) (f := 2) (by omega) (r := (resV (alB rows good k) rows good k (repL rows good k), Mem.empty)) (rchS rows k).1.length 0 (upd (upd (upd Mem.empty.h 0 (some (AObj.cells [AV.nils, AV.nils]))) 1 (some (AObj.cells (List.replicate rows.length (AV.int IntKind.i64 0))))) 2 (some (.cells []))) 3 (List.replicate rows.length 0) (by omega) (by simp) (by simp [ints]) (by simp [ded]) (by omega) (by omega) (by simp) (fun h' nx' Na' g1 g2 g3 g4 g5 g6 => by
    have hz : h' 0 = some (.cells [.nils, .nils]) := by rw [g6 0 (by omega) (by omega)]; simp
    have st2 := rs_w (gv := gv) hn hg v (al := alB rows good k) (R := (rchS rows k).1) (F := repL rows good k) R2 (Na := Na') g1 g4 hF6 hFR hpos (N := 1) (f := 2) (o := nx') (z0 := 0) (lo := nx' + 1) (by omega) (by omega) (by omega) (by omega) (by omega) (by omega) (by omega) (repL rows good k).length 0 (upd h' nx' (some (.cells [.nils, .nils]))) (nx' + 1) .nils .nils (by omega) (by rw [updNe (by omega)]; exact g2) (by rw [updNe (by omega)]; exact g3) (by omega) ⟨by simp, by rw [updNe (by omega)]; exact hz, .nil, .nil, by simp [objId]⟩
    simp only [Int.ofNat_zero, Int.cast_ofNat_Int, KU4] at st2
    rw [r07_Smallest.L0_eq]
    simp [KT0]
    exact st2)
  rw [r07_Smallest.call_eq _ _ (by simp [hn.closed, hg.closed])]
  have e0 : ded (alB rows good k) ((rchS rows k).1.take 0) = [] := rfl
  rw [e0] at st
  simp only [Int.ofNat_zero, Int.cast_ofNat_Int, KT0, List.length_nil] at st
  simp [hn.one, hg.one, hn.closed, hg.closed, hn.len, h1, h2, rchV, show rows.length ≤ 4611686018427387904 by omega, show rows.length * 8 ≤ 70368744177664 by omega]
  rw [st]
  rfl
end Go.Proofs.Ythnpflkpjimkfaa

/-
  THE SAME BRAND: the test answers yes for the same; the smallest form is a brand. Conditions: none.
-/
namespace Go.Proofs.Ythnpflkpjimkfaa
open Go.AM
open Go.Proofs.Try (prog)
set_option linter.all false
set_option maxRecDepth 100000
set_option maxHeartbeats 8000000

theorem sb_in {nv gv nv' gv' : AV} {ps ps' : List AV} {rows : List (List Int)} (hn : IsRows nv ps rows) (hn' : IsRows nv' ps' rows) {s : Nat} (hs : s < rows.length) (hl : (cth rows s).length ≤ 1000) {K : List Item} : ∀ (c j : Nat) (m : Mem), j + c = (cth rows s).length → ∃ m', r07_SameBrand.L2 (.fptr [nv, gv]) (.fptr [nv', gv']) (.int .i64 s) (.int .i64 j) m K = r07_SameBrand.L2 (.fptr [nv, gv]) (.fptr [nv', gv']) (.int .i64 s) (.int .i64 (cth rows s).length) m' K := by
  intro c
  have iw1 := hn.row s hs
  have iw2 := hn'.row s hs
  induction c with
  | zero =>
    intro j m h1
    have e : j = (cth rows s).length := by omega
    exact ⟨m, by rw [e]⟩
  | succ c ih =>
    intro j m h1
    have hj : j < (cth rows s).length := by omega
    have hwj : IntKind.wrap .i64 ((j : Int) + 1) = (j : Int) + 1 := wrap_id (by omega) (by omega)
    have d1 := iw1.idx hj .i64
    have d2 := iw2.idx hj .i64
    have e1 := ints_head (l := cth rows s) hj
    obtain ⟨m', hm⟩ := ih (j + 1) ⟨m.h, m.nx + 17⟩ (by omega)
    refine ⟨m', ?_⟩
    rw [← hm]
    simp only [Int.natCast_add, Int.cast_ofNat_Int]
    rw [r07_SameBrand.L2_eq]
    simp [hn.idx hs, hn.head hs, hn'.idx hs, hn'.head hs, iw1.len, iw2.len, hj, d1, d2, e1, hwj]
    done
theorem sb_good {nv gv nv' gv' : AV} {good : List Bool} (hg : IsB gv good) (hg' : IsB gv' good) (hl : good.length ≤ 1000) : ∀ (c j : Nat) (m : Mem), j + c = good.length → r07_SameBrand.L4 (.fptr [nv, gv]) (.fptr [nv', gv']) (.int .i64 j) m [.code r07_SameBrand.r18, .code .ret] = some (.bool true, Mem.empty) := by
  intro c
  induction c with
  | zero =>
    intro j m h1
    have e : j = good.length := by omega
    subst e
    rw [r07_SameBrand.L4_eq]
    simp [hg.len]
    done
  | succ c ih =>
    intro j m h1
    have hj : j < good.length := by omega
    have hwj : IntKind.wrap .i64 ((j : Int) + 1) = (j : Int) + 1 := wrap_id (by omega) (by omega)
    have b1 := bls_head (bs := good) hj
    have st := fun m => ih (j + 1) m (by omega)
    simp only [Int.natCast_add, Int.cast_ofNat_Int] at st
    rw [r07_SameBrand.L4_eq]
    simp [hg.len, hj, hg.idx hj, hg'.idx hj, b1, hwj, st]
    done
theorem sb_rows {nv gv nv' gv' : AV} {ps ps' : List AV} {rows : List (List Int)} {good : List Bool} (hn : IsRows nv ps rows) (hn' : IsRows nv' ps' rows) (hg : IsB gv good) (hg' : IsB gv' good) (hl : rows.length ≤ 1000) (hr : ∀ i, i < rows.length → (cth rows i).length ≤ 1000) (hgl : good.length ≤ 1000) : ∀ (c j : Nat) (m : Mem), j + c = rows.length → r07_SameBrand.L0 (.fptr [nv, gv]) (.fptr [nv', gv']) (.int .i64 j) m [.code r07_SameBrand.r13, .code r07_SameBrand.k4, .code r07_SameBrand.r18, .code .ret] = some (.bool true, Mem.empty) := by
  intro c
  induction c with
  | zero =>
    intro j m h1
    have e : j = rows.length := by omega
    subst e
    have st := fun m => sb_good (nv := nv) (nv' := nv') hg hg' hgl good.length 0 m (by omega)
    simp only [Int.ofNat_zero, Int.cast_ofNat_Int] at st
    rw [r07_SameBrand.L0_eq]
    simp [hn.len, st]
    done
  | succ c ih =>
    intro j m h1
    have hj : j < rows.length := by omega
    have hwj : IntKind.wrap .i64 ((j : Int) + 1) = (j : Int) + 1 := wrap_id (by omega) (by omega)
    have iw1 := hn.row j hj
    have iw2 := hn'.row j hj
    obtain ⟨m', hm⟩ := sb_in (gv := gv) (gv' := gv') hn hn' hj (hr j hj) (K := .inBlock 1 :: .code r07_SameBrand.r5 :: .inLoop r07_SameBrand.l0 :: .inBlock 0 :: [.code r07_SameBrand.r13, .code r07_SameBrand.k4, .code r07_SameBrand.r18, .code .ret]) (cth rows j).length 0 ⟨m.h, m.nx + 13⟩ (by omega)
    simp only [Int.ofNat_zero, Int.cast_ofNat_Int] at hm
    have st := fun m => ih (j + 1) m (by omega)
    simp only [Int.natCast_add, Int.cast_ofNat_Int] at st
    rw [r07_SameBrand.L0_eq]
    simp [hn.len, hj, hn.idx hj, hn.head hj, hn'.idx hj, hn'.head hj, iw1.len, iw2.len, hm]
    rw [r07_SameBrand.L2_eq]
    simp [hn.idx hj, hn.head hj, iw1.len, hwj, st]
    done
theorem samebrand_refl {nv gv nv' gv' : AV} {ps ps' : List AV} {rows : List (List Int)} {good : List Bool} (hn : IsRows nv ps rows) (hn' : IsRows nv' ps' rows) (hg : IsB gv good) (hg' : IsB gv' good) (hl : rows.length ≤ 1000) (hr : ∀ i, i < rows.length → (cth rows i).length ≤ 1000) (hgl : good.length ≤ 1000) (m : Mem) :
    denC prog ann 28 [.agg [nv, gv], .agg [nv', gv']] m = some (.bool true, m) := by
  have st := fun m => sb_rows hn hn' hg hg' hl hr hgl rows.length 0 m (by omega)
  simp only [Int.ofNat_zero, Int.cast_ofNat_Int] at st
  rw [r07_SameBrand.call_eq _ _ _ (by simp [hn.closed, hg.closed, hn'.closed, hg'.closed])]
  simp [hn.one, hg.one, hn.closed, hg.closed, hn'.one, hg'.one, hn'.closed, hg'.closed, hn.len, hn'.len, hg.len, hg'.len, st]
  done

/-! ### The smallest form as a brand -/
noncomputable def rowsM (rows : List (List Int)) (good : List Bool) (k : Nat) : List (List Int) := (repL rows good k).map fun q => (List.range k).map fun a => ((idxA (alB rows good k) (repL rows good k) (nx rows q a) : Nat) : Int)
noncomputable def goodM (rows : List (List Int)) (good : List Bool) (k : Nat) : List Bool := (repL rows good k).map (bnth good)
noncomputable def psM (rows : List (List Int)) (good : List Bool) (k : Nat) : List AV := (repL rows good k).map (rowF (alB rows good k) rows k (repL rows good k))
noncomputable def nvM (rows : List (List Int)) (good : List Bool) (k : Nat) : AV := .fsl false (repL rows good k).length (psM rows good k)
noncomputable def gvM (rows : List (List Int)) (good : List Bool) (k : Nat) : AV := .fsl false (repL rows good k).length (bls (goodM rows good k))
theorem resV_eq (rows : List (List Int)) (good : List Bool) (k : Nat) : resV (alB rows good k) rows good k (repL rows good k) = .agg [nvM rows good k, gvM rows good k] := by
  simp [resV, nvM, gvM, psM, goodM, bls]
theorem isB_M (rows : List (List Int)) (good : List Bool) (k : Nat) : IsB (gvM rows good k) (goodM rows good k) := .inr ⟨false, by simp [gvM, goodM]⟩
theorem isRows_M (rows : List (List Int)) (good : List Bool) (k : Nat) : IsRows (nvM rows good k) (psM rows good k) (rowsM rows good k) := by
  refine ⟨by simp [psM, rowsM], fun i hi => ?_, .inr ⟨false, by simp [nvM, rowsM]⟩⟩
  have hi' : i < (repL rows good k).length := by simpa [rowsM] using hi
  have e1 : pth (psM rows good k) i = rowF (alB rows good k) rows k (repL rows good k) (repL rows good k)[i] := by simp [pth, psM, hi', List.getD_eq_getElem?_getD]
  have e2 : cth (rowsM rows good k) i = (List.range k).map fun a => ((idxA (alB rows good k) (repL rows good k) (nx rows (repL rows good k)[i] a) : Nat) : Int) := by simp [cth, rowsM, hi', List.getD_eq_getElem?_getD]
  rw [e1, e2]
  exact .inr ⟨false, by simp [rowF, rowV, ints]⟩
theorem rowsM_len (rows : List (List Int)) (good : List Bool) (k : Nat) : (rowsM rows good k).length = (repL rows good k).length := by simp [rowsM]
theorem repL_few {rows : List (List Int)} {good : List Bool} {k : Nat} (v : VB rows good k) : (repL rows good k).length ≤ rows.length ∧ 0 < (repL rows good k).length ∧ 0 ∈ (rchS rows k).1 := by
  obtain ⟨R1, R2⟩ := rch_ok v
  have hle : (repL rows good k).length ≤ rows.length := by
    have := ded_len (al := alB rows good k) (rchS rows k).1 []
    have e : (repL rows good k).length ≤ 0 + (rchS rows k).1.length := this
    have := nodup_sub R1.nd (L := List.range rows.length) fun x hx => List.mem_range.2 (R1.all x hx)
    simp at this
    omega
  have h0 : 0 ∈ (rchS rows k).1 := by
    have hp : ∀ (f i : Nat) (S : List Nat × List (List UInt8)), 0 ∈ S.1 → 0 ∈ (bfsA (nx rows) extL k f i S).1 := by
      intro f
      induction f with
      | zero => intro i S h; exact h
      | succ f ih =>
        intro i S h
        rw [bfsA]
        split
        · rename_i x w _ _
          obtain ⟨p, _, e1, _⟩ := bIn_pre (nx rows) extL x w k 0 S
          exact ih _ _ (by rw [e1]; exact List.mem_append_left _ h)
        · exact h
    exact hp _ _ _ (by simp)
  have := ded_any (lik_alB v) (rchS rows k).1 R1.all 0 h0
  obtain ⟨u, hu, _⟩ := List.any_eq_true.1 this
  exact ⟨hle, List.length_pos_of_mem hu, h0⟩
/-- The smallest form is a valid brand. -/
theorem VB_M {rows : List (List Int)} {good : List Bool} {k : Nat} (v : VB rows good k) : VB (rowsM rows good k) (goodM rows good k) k := by
  obtain ⟨h1, h2, h3⟩ := repL_few v
  obtain ⟨R1, R2⟩ := rch_ok v
  have n6 := v.n6
  have row : ∀ i (hi : i < (repL rows good k).length), cth (rowsM rows good k) i = (List.range k).map fun a => ((idxA (alB rows good k) (repL rows good k) (nx rows (repL rows good k)[i] a) : Nat) : Int) := fun i hi => by simp [cth, rowsM, hi, List.getD_eq_getElem?_getD]
  refine ⟨by rw [rowsM_len]; omega, by rw [rowsM_len]; omega, by simp [goodM, rowsM], v.k1, v.k3, fun i hi => ?_, fun i j hi hj => ?_⟩
  · rw [rowsM_len] at hi
    rw [row i hi]; simp
  · rw [rowsM_len] at hi
    rw [row i hi, rowsM_len]
    have hm : (repL rows good k)[i] ∈ (rchS rows k).1 := ded_mem (List.getElem_mem hi)
    have := idxA_lt (ded_any (lik_alB v) (rchS rows k).1 R1.all _ (R2 _ hm j hj))
    have e : nth ((List.range k).map fun a => ((idxA (alB rows good k) (repL rows good k) (nx rows (repL rows good k)[i] a) : Nat) : Int)) j = ((idxA (alB rows good k) (repL rows good k) (nx rows (repL rows good k)[i] j) : Nat) : Int) := by simp [nth, hj, List.getD_eq_getElem?_getD]
    rw [e]
    have this : idxA (alB rows good k) (repL rows good k) (nx rows (repL rows good k)[i] j) < (repL rows good k).length := this
    omega
end Go.Proofs.Ythnpflkpjimkfaa

/-
  BODIES OF FUNCTIONS OF THE PROGRAM AS SMALL OPERATIONS (written by gen.py; checked by the kernel against the program). Conditions: none.
-/
namespace Go.Proofs.Ythnpflkpjimkfaa
open Go.AM
open Go.Proofs.Try (prog)
set_option maxRecDepth 100000
set_option linter.all false

namespace l07_BrandSmallest
/-- pommel/pommellaw07.BrandSmallest -/
noncomputable def b : Code := (Try.f5.body).getD .skip
theorem hf : prog.funcs[5]? = some Try.f5 := by kernel_rfl
noncomputable def r0 : Code := findReg b 0
noncomputable def r1 : Code := findReg b 1
noncomputable def r2 : Code := findReg b 2
noncomputable def r3 : Code := findReg b 3
noncomputable def r4 : Code := findReg b 4
noncomputable def i0 : Code := findCond b 0
noncomputable def i0t : Code := thenOf i0
noncomputable def i0e : Code := elseOf i0
noncomputable def r5 : Code := findReg b 5
noncomputable def r6 : Code := findReg b 6
noncomputable def r7 : Code := findReg b 7
theorem b_eq (K : List Item) (s : St) : den prog ann 5 (.code b :: K) s = den prog ann 5 (.code r0 :: .code r1 :: .code r2 :: .code r3 :: .code r4 :: .code i0 :: .code r6 :: .code r7 :: .code .ret :: K) s := den_flat hf (l := [r0, r1, r2, r3, r4, i0, r6, r7, .ret]) (by kernel_rfl) K s
theorem r0_eq (K : List Item) (s : St) : den prog ann 5 (.code r0 :: K) s = mreg prog ann 5 none [] none [] [
    ⟨some 1, none, .v fun s => frozenPtr (s.get 0)⟩,
    ⟨some 2, none, .v fun s => some (.bool false)⟩] K s := (den_reg hf _ K s).trans (by kernel_rfl)
theorem r1_eq (K : List Item) (s : St) : den prog ann 5 (.code r1 :: K) s = mreg prog ann 5 none [] none [3] [
    ⟨some 10, none, .v fun s => loadF true 2 (s.get 1)⟩,
    ⟨some 11, none, .c 0 (fun s => (.fn 17 [] [])) fun s => [(s.get 10)]⟩,
    ⟨some 3, none, .w false none fun s => newPtr s.m [.nils, .nils]⟩,
    ⟨none, none, .w false none fun s => stA true 2 s.m (s.get 3) (s.get 11)⟩] K s := (den_reg hf _ K s).trans (by kernel_rfl)
theorem r2_eq (K : List Item) (s : St) : den prog ann 5 (.code r2 :: K) s = mreg prog ann 5 none [] none [4] [
    ⟨some 13, none, .v fun s => loadF true 2 (s.get 3)⟩,
    ⟨some 14, none, .c 2 (fun s => (.fn 26 [] [])) fun s => [(s.get 13)]⟩,
    ⟨some 12, none, .v fun s => some (s.get 14)⟩,
    ⟨some 15, none, .v fun s => extA (s.get 12) 0⟩,
    ⟨some 16, none, .v fun s => extA (s.get 12) 1⟩,
    ⟨some 4, none, .w false none fun s => newPtr s.m [.nils, .nils]⟩,
    ⟨none, none, .w false none fun s => stA true 2 s.m (s.get 4) (s.get 15)⟩,
    ⟨some 5, none, .v fun s => some (s.get 16)⟩] K s := (den_reg hf _ K s).trans (by kernel_rfl)
theorem r3_eq (K : List Item) (s : St) : den prog ann 5 (.code r3 :: K) s = mreg prog ann 5 none [] none [] [
    ⟨some 18, none, .v fun s => loadF true 2 (s.get 3)⟩,
    ⟨some 19, none, .c 0 (fun s => (.fn 23 [] [])) fun s => [(s.get 18)]⟩,
    ⟨some 17, none, .v fun s => some (s.get 19)⟩,
    ⟨some 20, none, .v fun s => extA (s.get 17) 0⟩,
    ⟨some 21, none, .v fun s => extA (s.get 17) 1⟩,
    ⟨some 6, none, .v fun s => some (s.get 20)⟩,
    ⟨some 7, none, .v fun s => some (s.get 21)⟩] K s := (den_reg hf _ K s).trans (by kernel_rfl)
theorem r4_eq (K : List Item) (s : St) : den prog ann 5 (.code r4 :: K) s = mreg prog ann 5 none [] none [] [
    ⟨some 22, none, .v fun s => loadF true 2 (s.get 3)⟩,
    ⟨some 23, none, .c 0 (fun s => (.fn 19 [] [])) fun s => [(s.get 22)]⟩,
    ⟨some 24, none, .v fun s => unA .not (s.get 23)⟩] K s := (den_reg hf _ K s).trans (by kernel_rfl)
theorem i0_eq (K : List Item) (s : St) : den prog ann 5 (.code i0 :: K) s = ifV prog ann 5 24 i0t i0e K s (s.get 24) := den_if hf (by kernel_rfl) K s
theorem i0t_eq (K : List Item) (s : St) : den prog ann 5 (.code i0t :: K) s = den prog ann 5 (.code r5 :: .code .ret :: K) s := den_flat hf (l := [r5, .ret]) (by kernel_rfl) K s
theorem r5_eq (K : List Item) (s : St) : den prog ann 5 (.code r5 :: K) s = mreg prog ann 5 none [] none [] [
    ⟨some 25, none, .v fun s => fieldA 0 (s.get 4)⟩,
    ⟨some 26, none, .v fun s => loadF false 1 (s.get 25)⟩,
    ⟨some 27, none, .v fun s => lenSl (s.get 26)⟩,
    ⟨some 28, none, .v fun s => fieldA 1 (s.get 4)⟩,
    ⟨some 29, none, .v fun s => loadF false 1 (s.get 28)⟩,
    ⟨some 30, none, .v fun s => lenSl (s.get 29)⟩,
    ⟨some 31, none, .v fun s => binA prog .add 3 (s.get 27) (s.get 30)⟩,
    ⟨some 32, none, .v fun s => binA prog .eql 3 (s.get 31) (.int .i64 0)⟩,
    ⟨some 33, none, .v fun s => some (s.get 32)⟩,
    ⟨some 34, some (33, true), .v fun s => some (s.get 5)⟩,
    ⟨some 35, some (33, true), .v fun s => binA prog .eql 27 (s.get 34) (.int .i64 1)⟩,
    ⟨some 36, none, .v fun s => pickA (s.get 33) (s.get 35) (.bool false)⟩,
    ⟨some 37, none, .v fun s => some (s.get 36)⟩,
    ⟨some 38, some (37, true), .v fun s => some (s.get 6)⟩,
    ⟨some 39, some (37, true), .v fun s => binA prog .eql 9 (s.get 38) (.str [])⟩,
    ⟨some 40, none, .v fun s => pickA (s.get 37) (s.get 39) (.bool false)⟩,
    ⟨some 41, none, .v fun s => some (s.get 40)⟩,
    ⟨some 42, some (41, true), .v fun s => some (s.get 7)⟩,
    ⟨some 43, some (41, true), .v fun s => binA prog .eql 27 (s.get 42) (.int .i64 1)⟩,
    ⟨some 44, none, .v fun s => pickA (s.get 41) (s.get 43) (.bool false)⟩,
    ⟨some 45, none, .v fun s => some (s.get 44)⟩,
    ⟨some 46, some (45, true), .c 0 (fun s => (.fn 21 [] [])) fun s => []⟩,
    ⟨some 47, none, .v fun s => pickA (s.get 45) (s.get 46) (.bool false)⟩,
    ⟨some 2, none, .v fun s => some (s.get 47)⟩] K s := (den_reg hf _ K s).trans (by kernel_rfl)
theorem i0e_eq (K : List Item) (s : St) : den prog ann 5 (.code i0e :: K) s = den prog ann 5 (K) s := den_flat hf (l := []) (by kernel_rfl) K s
theorem r6_eq (K : List Item) (s : St) : den prog ann 5 (.code r6 :: K) s = mreg prog ann 5 none [] none [] [
    ⟨some 49, none, .v fun s => loadF true 2 (s.get 3)⟩,
    ⟨some 50, none, .c 0 (fun s => (.fn 27 [] [])) fun s => [(s.get 49)]⟩,
    ⟨some 48, none, .v fun s => some (s.get 50)⟩,
    ⟨some 51, none, .v fun s => extA (s.get 48) 0⟩,
    ⟨some 52, none, .v fun s => extA (s.get 48) 1⟩,
    ⟨some 8, none, .v fun s => some (s.get 51)⟩,
    ⟨some 9, none, .v fun s => some (s.get 52)⟩] K s := (den_reg hf _ K s).trans (by kernel_rfl)
theorem r7_draw : drawOk (fun g => (ann g).pure) (modeOf (ann 5) (idOf r7)) (frzOf (ann 5) (idOf r7)) (opsOf r7) = true := drawOk_of (an := [0, 0, 2, 7, 15, 31, 63, 127, 255, 511, 511, 2047, 4095, 8191, 16383, 32767, 16383, 131071, 262143, 524287, 1048575, 2097151, 4194303, 8388607, 16777215, 33554431, 67108863, 134217727, 268435455, 536870911]) (by kernel_rfl) (by kernel_rfl)
theorem r7_eq (K : List Item) (s : St) : den prog ann 5 (.code r7 :: K) s = mreg prog ann 5 none [] (some 30) [] [
    ⟨some 53, none, .v fun s => loadF true 2 (s.get 4)⟩,
    ⟨some 54, none, .v fun s => loadF true 2 (s.get 3)⟩,
    ⟨some 55, none, .c 0 (fun s => (.fn 29 [] [])) fun s => [(s.get 54)]⟩,
    ⟨some 56, none, .c 0 (fun s => (.fn 28 [] [])) fun s => [(s.get 53), (s.get 55)]⟩,
    ⟨some 57, none, .v fun s => some (s.get 56)⟩,
    ⟨some 58, some (57, true), .v fun s => some (s.get 5)⟩,
    ⟨some 59, some (57, true), .v fun s => binA prog .eql 27 (s.get 58) (.int .i64 0)⟩,
    ⟨some 60, none, .v fun s => pickA (s.get 57) (s.get 59) (.bool false)⟩,
    ⟨some 61, none, .v fun s => some (s.get 60)⟩,
    ⟨some 62, some (61, true), .v fun s => some (s.get 6)⟩,
    ⟨some 63, some (61, true), .v fun s => some (s.get 8)⟩,
    ⟨some 64, some (61, true), .v fun s => binA prog .eql 9 (s.get 62) (s.get 63)⟩,
    ⟨some 65, none, .v fun s => pickA (s.get 61) (s.get 64) (.bool false)⟩,
    ⟨some 66, none, .v fun s => some (s.get 65)⟩,
    ⟨some 67, some (66, true), .v fun s => some (s.get 7)⟩,
    ⟨some 68, some (66, true), .v fun s => binA prog .eql 27 (s.get 67) (.int .i64 0)⟩,
    ⟨some 69, some (66, true), .v fun s => some (s.get 9)⟩,
    ⟨some 70, some (66, true), .v fun s => binA prog .eql 4 (s.get 68) (s.get 69)⟩,
    ⟨some 71, none, .v fun s => pickA (s.get 66) (s.get 70) (.bool false)⟩,
    ⟨some 72, none, .v fun s => some (s.get 71)⟩,
    ⟨some 73, some (72, true), .v fun s => some (s.get 9)⟩,
    ⟨some 74, some (72, true), .v fun s => some (s.get 73)⟩,
    ⟨some 75, some (74, false), .v fun s => some (s.get 7)⟩,
    ⟨some 76, some (74, false), .v fun s => binA prog .eql 27 (s.get 75) (.int .i64 5)⟩,
    ⟨some 77, some (72, true), .v fun s => pickA (s.get 74) (.bool true) (s.get 76)⟩,
    ⟨some 78, none, .v fun s => pickA (s.get 72) (s.get 77) (.bool false)⟩,
    ⟨some 79, none, .v fun s => some (s.get 78)⟩,
    ⟨some 80, some (79, true), .c 0 (fun s => (.fn 21 [] [])) fun s => []⟩,
    ⟨some 81, none, .v fun s => pickA (s.get 79) (s.get 80) (.bool false)⟩,
    ⟨some 2, none, .v fun s => some (s.get 81)⟩] K s := (den_regD hf r7_draw K s).trans (by kernel_rfl)
theorem ret_eq (K : List Item) (s : St) : den prog ann 5 (.code .ret :: K) s = finM true [fun s => some (s.get 2)] s := (den_ret hf K s).trans (by kernel_rfl)
theorem nil_eq (s : St) : den prog ann 5 [] s = finM true [fun s => some (s.get 2)] s := (den_nil hf s).trans (by kernel_rfl)
theorem inBlock_eq (id : Nat) (K : List Item) (s : St) : den prog ann 5 (.inBlock id :: K) s = den prog ann 5 K s := den_inBlock hf id K s
theorem exit_eq (id : Nat) (K : List Item) (s : St) : den prog ann 5 (.code (.exit id) :: K) s = exitV prog ann 5 (exitTo id K) s := den_exitV hf id K s
theorem call_eq (v0 : AV) (m : Mem) (h : closedL [v0] = true) : denC prog ann 5 [v0] m = (den prog ann 5 [.code b] ⟨[(0, v0)], 82, Mem.empty⟩).bind fun r => some (r.1, m) := (denC_pure hf (b := b) (by kernel_rfl) (by kernel_rfl) (by kernel_rfl) h m).trans (by kernel_rfl)
theorem pure_eq : (ann 5).pure = true := by kernel_rfl
attribute [simp] b_eq r0_eq r1_eq r2_eq r3_eq r4_eq i0_eq i0t_eq r5_eq i0e_eq r6_eq r7_eq ret_eq nil_eq inBlock_eq exit_eq pure_eq
end l07_BrandSmallest

namespace brand_Reset
/-- pommel/brand.Reset -/
noncomputable def b : Code := (Try.f23.body).getD .skip
theorem hf : prog.funcs[23]? = some Try.f23 := by kernel_rfl
noncomputable def r0 : Code := findReg b 0
noncomputable def r1 : Code := findReg b 1
noncomputable def i0 : Code := findCond b 0
noncomputable def i0t : Code := thenOf i0
noncomputable def i0e : Code := elseOf i0
noncomputable def r2 : Code := findReg b 2
noncomputable def r3 : Code := findReg b 3
noncomputable def r4 : Code := findReg b 4
noncomputable def r5 : Code := findReg b 5
noncomputable def k0 : Code := findBlk b 0
noncomputable def l0 : Code := loopOf k0
noncomputable def L0 (x1 x5 x6 : AV) (m : Mem) (K : List Item) : Option Res := den prog ann 23 (.code l0 :: .inLoop l0 :: .inBlock 0 :: K) ⟨[(1, x1), (5, x5), (6, x6)], 93, m⟩
noncomputable def r6 : Code := findReg b 6
noncomputable def i1 : Code := findCond b 1
noncomputable def i1t : Code := thenOf i1
noncomputable def i1e : Code := elseOf i1
noncomputable def k1 : Code := findBlk b 1
noncomputable def r8 : Code := findReg b 8
noncomputable def r9 : Code := findReg b 9
noncomputable def i2 : Code := findCond b 2
noncomputable def i2t : Code := thenOf i2
noncomputable def i2e : Code := elseOf i2
noncomputable def r10 : Code := findReg b 10
noncomputable def r11 : Code := findReg b 11
noncomputable def k2 : Code := findBlk b 2
noncomputable def l2 : Code := loopOf k2
noncomputable def L2 (x1 x5 x6 x7 x47 x48 : AV) (m : Mem) (K : List Item) : Option Res := den prog ann 23 (.code l2 :: .inLoop l2 :: .inBlock 2 :: K) ⟨[(1, x1), (5, x5), (6, x6), (7, x7), (47, x47), (48, x48)], 93, m⟩
noncomputable def r12 : Code := findReg b 12
noncomputable def i3 : Code := findCond b 3
noncomputable def i3t : Code := thenOf i3
noncomputable def i3e : Code := elseOf i3
noncomputable def k3 : Code := findBlk b 3
noncomputable def r13 : Code := findReg b 13
noncomputable def r14 : Code := findReg b 14
noncomputable def r15 : Code := findReg b 15
noncomputable def k4 : Code := findBlk b 4
noncomputable def l4 : Code := loopOf k4
noncomputable def L4 (x1 x5 x6 x7 x8 x9 x47 x48 x52 x53 x54 : AV) (m : Mem) (K : List Item) : Option Res := den prog ann 23 (.code l4 :: .inLoop l4 :: .inBlock 4 :: K) ⟨[(1, x1), (5, x5), (6, x6), (7, x7), (8, x8), (9, x9), (47, x47), (48, x48), (52, x52), (53, x53), (54, x54)], 93, m⟩
noncomputable def r16 : Code := findReg b 16
noncomputable def i4 : Code := findCond b 4
noncomputable def i4t : Code := thenOf i4
noncomputable def i4e : Code := elseOf i4
noncomputable def k5 : Code := findBlk b 5
noncomputable def r17 : Code := findReg b 17
noncomputable def r18 : Code := findReg b 18
noncomputable def i5 : Code := findCond b 5
noncomputable def i5t : Code := thenOf i5
noncomputable def i5e : Code := elseOf i5
noncomputable def r19 : Code := findReg b 19
noncomputable def r20 : Code := findReg b 20
noncomputable def r21 : Code := findReg b 21
noncomputable def r22 : Code := findReg b 22
noncomputable def i6 : Code := findCond b 6
noncomputable def i6t : Code := thenOf i6
noncomputable def i6e : Code := elseOf i6
noncomputable def r23 : Code := findReg b 23
noncomputable def r24 : Code := findReg b 24
noncomputable def r25 : Code := findReg b 25
noncomputable def r7 : Code := findReg b 7
noncomputable def r26 : Code := findReg b 26
theorem b_eq (K : List Item) (s : St) : den prog ann 23 (.code b :: K) s = den prog ann 23 (.code r0 :: .code r1 :: .code i0 :: .code r3 :: .code r4 :: .code r5 :: .code k0 :: .code r26 :: .code .ret :: K) s := den_flat hf (l := [r0, r1, i0, r3, r4, r5, k0, r26, .ret]) (by kernel_rfl) K s
theorem r0_eq (K : List Item) (s : St) : den prog ann 23 (.code r0 :: K) s = mreg prog ann 23 none [] none [] [
    ⟨some 1, none, .v fun s => frozenPtr (s.get 0)⟩,
    ⟨some 2, none, .v fun s => some (.str [])⟩,
    ⟨some 3, none, .v fun s => some (.int .i64 0)⟩] K s := (den_reg hf _ K s).trans (by kernel_rfl)
theorem r1_eq (K : List Item) (s : St) : den prog ann 23 (.code r1 :: K) s = mreg prog ann 23 none [] none [] [
    ⟨some 14, none, .v fun s => loadF true 2 (s.get 1)⟩,
    ⟨some 15, none, .c 0 (fun s => (.fn 55 [] [])) fun s => [(s.get 14)]⟩,
    ⟨some 16, none, .v fun s => unA .not (s.get 15)⟩] K s := (den_reg hf _ K s).trans (by kernel_rfl)
theorem i0_eq (K : List Item) (s : St) : den prog ann 23 (.code i0 :: K) s = ifV prog ann 23 16 i0t i0e K s (s.get 16) := den_if hf (by kernel_rfl) K s
theorem i0t_eq (K : List Item) (s : St) : den prog ann 23 (.code i0t :: K) s = den prog ann 23 (.code r2 :: .code .ret :: K) s := den_flat hf (l := [r2, .ret]) (by kernel_rfl) K s
theorem r2_eq (K : List Item) (s : St) : den prog ann 23 (.code r2 :: K) s = mreg prog ann 23 none [] none [] [
    ⟨some 2, none, .v fun s => some (.str [])⟩,
    ⟨some 3, none, .v fun s => some (.int .i64 1)⟩] K s := (den_reg hf _ K s).trans (by kernel_rfl)
theorem i0e_eq (K : List Item) (s : St) : den prog ann 23 (.code i0e :: K) s = den prog ann 23 (K) s := den_flat hf (l := []) (by kernel_rfl) K s
theorem r3_eq (K : List Item) (s : St) : den prog ann 23 (.code r3 :: K) s = mreg prog ann 23 none [] none [] [
    ⟨some 17, none, .v fun s => fieldA 0 (s.get 1)⟩,
    ⟨some 18, none, .v fun s => loadF false 1 (s.get 17)⟩,
    ⟨some 19, none, .v fun s => lenSl (s.get 18)⟩,
    ⟨some 20, none, .v fun s => binA prog .shl 3 (.int .i64 1) (s.get 19)⟩,
    ⟨some 21, none, .v fun s => binA prog .sub 3 (s.get 20) (.int .i64 1)⟩,
    ⟨some 4, none, .v fun s => some (s.get 21)⟩] K s := (den_reg hf _ K s).trans (by kernel_rfl)
theorem r4_eq (K : List Item) (s : St) : den prog ann 23 (.code r4 :: K) s = mreg prog ann 23 none [] none [] [
    ⟨some 22, none, .w false none fun s => some (.map s.m.nx, s.m.new (.map 0 [] []))⟩,
    ⟨some 23, none, .v fun s => some (s.get 4)⟩,
    ⟨none, none, .w false none fun s => updM prog s.m 3 (s.get 22) (s.get 23) (.str [])⟩,
    ⟨some 24, none, .v fun s => some (s.get 22)⟩,
    ⟨some 5, none, .v fun s => some (s.get 24)⟩] K s := (den_reg hf _ K s).trans (by kernel_rfl)
theorem r5_eq (K : List Item) (s : St) : den prog ann 23 (.code r5 :: K) s = mreg prog ann 23 none [] none [] [
    ⟨some 25, none, .v fun s => some (s.get 4)⟩,
    ⟨some 26, none, .w false none fun s => bslM s.m 1 (bslA 1 1 [.int .i64 0] [(0, (s.get 25))])⟩,
    ⟨some 6, none, .v fun s => some (s.get 26)⟩] K s := (den_reg hf _ K s).trans (by kernel_rfl)
theorem k0_eq (K : List Item) (t : List (Nat × AV)) (m : Mem) : den prog ann 23 (.code k0 :: K) ⟨t, 93, m⟩ = L0 (get t 1) (get t 5) (get t 6) m K := den_loop_enter hf (b := l0) (id := 6) (l := [1, 5, 6]) (by kernel_rfl) (by kernel_rfl) (by kernel_rfl) K _
theorem l0_eq (K : List Item) (t : List (Nat × AV)) (m : Mem) : den prog ann 23 (.inLoop l0 :: .inBlock 0 :: K) ⟨t, 93, m⟩ = L0 (get t 1) (get t 5) (get t 6) m K := den_loop_again hf (id := 6) (l := [1, 5, 6]) (by kernel_rfl) (by kernel_rfl) (.inBlock 0 :: K) _
theorem L0_eq (x1 x5 x6 : AV) (m : Mem) (K : List Item) : L0 x1 x5 x6 m K = den prog ann 23 (.code r6 :: .code i1 :: .code k1 :: .code r7 :: .inLoop l0 :: .inBlock 0 :: K) ⟨[(1, x1), (5, x5), (6, x6)], 93, m⟩ := den_flat hf (l := [r6, i1, k1, r7]) (by kernel_rfl) _ _
theorem r6_eq (K : List Item) (s : St) : den prog ann 23 (.code r6 :: K) s = mreg prog ann 23 (some [1, 5, 6]) [] none [] [
    ⟨some 27, none, .v fun s => some (s.get 6)⟩,
    ⟨some 28, none, .v fun s => lenSl (s.get 27)⟩,
    ⟨some 29, none, .v fun s => binA prog .gtr 3 (s.get 28) (.int .i64 0)⟩] K s := (den_reg hf _ K s).trans (by kernel_rfl)
theorem i1_eq (K : List Item) (s : St) : den prog ann 23 (.code i1 :: K) s = ifV prog ann 23 29 i1t i1e K s (s.get 29) := den_if hf (by kernel_rfl) K s
theorem i1t_eq (K : List Item) (s : St) : den prog ann 23 (.code i1t :: K) s = den prog ann 23 (K) s := den_flat hf (l := []) (by kernel_rfl) K s
theorem i1e_eq (K : List Item) (s : St) : den prog ann 23 (.code i1e :: K) s = den prog ann 23 (.code (.exit 0) :: K) s := den_flat hf (l := [(.exit 0)]) (by kernel_rfl) K s
theorem k1_eq (K : List Item) (s : St) : den prog ann 23 (.code k1 :: K) s = den prog ann 23 (.code r8 :: .code r9 :: .code i2 :: .code r11 :: .code k2 :: .inBlock 1 :: K) s := den_blk hf (b := blkOf k1) (l := [r8, r9, i2, r11, k2]) (by kernel_rfl) (by kernel_rfl) K s
theorem r8_eq (K : List Item) (s : St) : den prog ann 23 (.code r8 :: K) s = mreg prog ann 23 none [] none [] [
    ⟨some 32, none, .v fun s => some (s.get 6)⟩,
    ⟨some 33, none, .v fun s => idxSl 1 (s.get 32) (.int .i64 0)⟩,
    ⟨some 34, none, .v fun s => loadA false 1 s.m (s.get 33)⟩,
    ⟨some 7, none, .v fun s => some (s.get 34)⟩] K s := (den_reg hf _ K s).trans (by kernel_rfl)
theorem r9_eq (K : List Item) (s : St) : den prog ann 23 (.code r9 :: K) s = mreg prog ann 23 none [] none [] [
    ⟨some 35, none, .v fun s => some (s.get 7)⟩,
    ⟨some 36, none, .v fun s => some (s.get 7)⟩,
    ⟨some 37, none, .v fun s => binA prog .sub 3 (s.get 36) (.int .i64 1)⟩,
    ⟨some 38, none, .v fun s => binA prog .and 3 (s.get 35) (s.get 37)⟩,
    ⟨some 39, none, .v fun s => binA prog .eql 3 (s.get 38) (.int .i64 0)⟩] K s := (den_reg hf _ K s).trans (by kernel_rfl)
theorem i2_eq (K : List Item) (s : St) : den prog ann 23 (.code i2 :: K) s = ifV prog ann 23 39 i2t i2e K s (s.get 39) := den_if hf (by kernel_rfl) K s
theorem i2t_eq (K : List Item) (s : St) : den prog ann 23 (.code i2t :: K) s = den prog ann 23 (.code r10 :: .code .ret :: K) s := den_flat hf (l := [r10, .ret]) (by kernel_rfl) K s
theorem r10_eq (K : List Item) (s : St) : den prog ann 23 (.code r10 :: K) s = mreg prog ann 23 none [] none [] [
    ⟨some 40, none, .v fun s => some (s.get 5)⟩,
    ⟨some 41, none, .v fun s => some (s.get 7)⟩,
    ⟨some 42, none, .v fun s => lookP prog s.m 3 (.str []) (s.get 40) (s.get 41) false⟩,
    ⟨some 2, none, .v fun s => some (s.get 42)⟩,
    ⟨some 3, none, .v fun s => some (.int .i64 0)⟩] K s := (den_reg hf _ K s).trans (by kernel_rfl)
theorem i2e_eq (K : List Item) (s : St) : den prog ann 23 (.code i2e :: K) s = den prog ann 23 (K) s := den_flat hf (l := []) (by kernel_rfl) K s
theorem r11_eq (K : List Item) (s : St) : den prog ann 23 (.code r11 :: K) s = mreg prog ann 23 none [] none [] [
    ⟨some 43, none, .v fun s => fieldA 0 (s.get 1)⟩,
    ⟨some 44, none, .v fun s => loadF false 1 (s.get 43)⟩,
    ⟨some 45, none, .v fun s => idxSl 1 (s.get 44) (.int .i64 0)⟩,
    ⟨some 46, none, .v fun s => loadF false 1 (s.get 45)⟩,
    ⟨some 47, none, .v fun s => lenSl (s.get 46)⟩,
    ⟨some 48, none, .v fun s => some (.int .i64 0)⟩] K s := (den_reg hf _ K s).trans (by kernel_rfl)
theorem k2_eq (K : List Item) (t : List (Nat × AV)) (m : Mem) : den prog ann 23 (.code k2 :: K) ⟨t, 93, m⟩ = L2 (get t 1) (get t 5) (get t 6) (get t 7) (get t 47) (get t 48) m K := den_loop_enter hf (b := l2) (id := 12) (l := [1, 5, 6, 7, 47, 48]) (by kernel_rfl) (by kernel_rfl) (by kernel_rfl) K _
theorem l2_eq (K : List Item) (t : List (Nat × AV)) (m : Mem) : den prog ann 23 (.inLoop l2 :: .inBlock 2 :: K) ⟨t, 93, m⟩ = L2 (get t 1) (get t 5) (get t 6) (get t 7) (get t 47) (get t 48) m K := den_loop_again hf (id := 12) (l := [1, 5, 6, 7, 47, 48]) (by kernel_rfl) (by kernel_rfl) (.inBlock 2 :: K) _
theorem L2_eq (x1 x5 x6 x7 x47 x48 : AV) (m : Mem) (K : List Item) : L2 x1 x5 x6 x7 x47 x48 m K = den prog ann 23 (.code r12 :: .code i3 :: .code k3 :: .code r25 :: .inLoop l2 :: .inBlock 2 :: K) ⟨[(1, x1), (5, x5), (6, x6), (7, x7), (47, x47), (48, x48)], 93, m⟩ := den_flat hf (l := [r12, i3, k3, r25]) (by kernel_rfl) _ _
theorem r12_eq (K : List Item) (s : St) : den prog ann 23 (.code r12 :: K) s = mreg prog ann 23 (some [1, 5, 6, 7, 47, 48]) [] none [] [
    ⟨some 49, none, .v fun s => binA prog .lss 3 (s.get 48) (s.get 47)⟩] K s := (den_reg hf _ K s).trans (by kernel_rfl)
theorem i3_eq (K : List Item) (s : St) : den prog ann 23 (.code i3 :: K) s = ifV prog ann 23 49 i3t i3e K s (s.get 49) := den_if hf (by kernel_rfl) K s
theorem i3t_eq (K : List Item) (s : St) : den prog ann 23 (.code i3t :: K) s = den prog ann 23 (K) s := den_flat hf (l := []) (by kernel_rfl) K s
theorem i3e_eq (K : List Item) (s : St) : den prog ann 23 (.code i3e :: K) s = den prog ann 23 (.code (.exit 2) :: K) s := den_flat hf (l := [(.exit 2)]) (by kernel_rfl) K s
theorem k3_eq (K : List Item) (s : St) : den prog ann 23 (.code k3 :: K) s = den prog ann 23 (.code r13 :: .code r14 :: .code r15 :: .code k4 :: .code r21 :: .code r22 :: .code i6 :: .inBlock 3 :: K) s := den_blk hf (b := blkOf k3) (l := [r13, r14, r15, k4, r21, r22, i6]) (by kernel_rfl) (by kernel_rfl) K s
theorem r13_eq (K : List Item) (s : St) : den prog ann 23 (.code r13 :: K) s = mreg prog ann 23 none [] none [] [
    ⟨some 50, none, .v fun s => some (s.get 48)⟩,
    ⟨some 8, none, .v fun s => some (s.get 50)⟩] K s := (den_reg hf _ K s).trans (by kernel_rfl)
theorem r14_eq (K : List Item) (s : St) : den prog ann 23 (.code r14 :: K) s = mreg prog ann 23 none [] none [] [
    ⟨some 9, none, .v fun s => some (.int .i64 0)⟩] K s := (den_reg hf _ K s).trans (by kernel_rfl)
theorem r15_eq (K : List Item) (s : St) : den prog ann 23 (.code r15 :: K) s = mreg prog ann 23 none [] none [] [
    ⟨some 51, none, .v fun s => fieldA 0 (s.get 1)⟩,
    ⟨some 52, none, .v fun s => loadF false 1 (s.get 51)⟩,
    ⟨some 53, none, .v fun s => lenSl (s.get 52)⟩,
    ⟨some 54, none, .v fun s => some (.int .i64 0)⟩] K s := (den_reg hf _ K s).trans (by kernel_rfl)
theorem k4_eq (K : List Item) (t : List (Nat × AV)) (m : Mem) : den prog ann 23 (.code k4 :: K) ⟨t, 93, m⟩ = L4 (get t 1) (get t 5) (get t 6) (get t 7) (get t 8) (get t 9) (get t 47) (get t 48) (get t 52) (get t 53) (get t 54) m K := den_loop_enter hf (b := l4) (id := 16) (l := [1, 5, 6, 7, 8, 9, 47, 48, 52, 53, 54]) (by kernel_rfl) (by kernel_rfl) (by kernel_rfl) K _
theorem l4_eq (K : List Item) (t : List (Nat × AV)) (m : Mem) : den prog ann 23 (.inLoop l4 :: .inBlock 4 :: K) ⟨t, 93, m⟩ = L4 (get t 1) (get t 5) (get t 6) (get t 7) (get t 8) (get t 9) (get t 47) (get t 48) (get t 52) (get t 53) (get t 54) m K := den_loop_again hf (id := 16) (l := [1, 5, 6, 7, 8, 9, 47, 48, 52, 53, 54]) (by kernel_rfl) (by kernel_rfl) (.inBlock 4 :: K) _
theorem L4_eq (x1 x5 x6 x7 x8 x9 x47 x48 x52 x53 x54 : AV) (m : Mem) (K : List Item) : L4 x1 x5 x6 x7 x8 x9 x47 x48 x52 x53 x54 m K = den prog ann 23 (.code r16 :: .code i4 :: .code k5 :: .code r20 :: .inLoop l4 :: .inBlock 4 :: K) ⟨[(1, x1), (5, x5), (6, x6), (7, x7), (8, x8), (9, x9), (47, x47), (48, x48), (52, x52), (53, x53), (54, x54)], 93, m⟩ := den_flat hf (l := [r16, i4, k5, r20]) (by kernel_rfl) _ _
theorem r16_eq (K : List Item) (s : St) : den prog ann 23 (.code r16 :: K) s = mreg prog ann 23 (some [1, 5, 6, 7, 8, 9, 47, 48, 52, 53, 54]) [] none [] [
    ⟨some 55, none, .v fun s => binA prog .lss 3 (s.get 54) (s.get 53)⟩] K s := (den_reg hf _ K s).trans (by kernel_rfl)
theorem i4_eq (K : List Item) (s : St) : den prog ann 23 (.code i4 :: K) s = ifV prog ann 23 55 i4t i4e K s (s.get 55) := den_if hf (by kernel_rfl) K s
theorem i4t_eq (K : List Item) (s : St) : den prog ann 23 (.code i4t :: K) s = den prog ann 23 (K) s := den_flat hf (l := []) (by kernel_rfl) K s
theorem i4e_eq (K : List Item) (s : St) : den prog ann 23 (.code i4e :: K) s = den prog ann 23 (.code (.exit 4) :: K) s := den_flat hf (l := [(.exit 4)]) (by kernel_rfl) K s
theorem k5_eq (K : List Item) (s : St) : den prog ann 23 (.code k5 :: K) s = den prog ann 23 (.code r17 :: .code r18 :: .code i5 :: .inBlock 5 :: K) s := den_blk hf (b := blkOf k5) (l := [r17, r18, i5]) (by kernel_rfl) (by kernel_rfl) K s
theorem r17_eq (K : List Item) (s : St) : den prog ann 23 (.code r17 :: K) s = mreg prog ann 23 none [] none [] [
    ⟨some 56, none, .v fun s => some (s.get 54)⟩,
    ⟨some 57, none, .v fun s => idxSl 1 (s.get 52) (s.get 54)⟩,
    ⟨some 58, none, .v fun s => loadF false 1 (s.get 57)⟩,
    ⟨some 10, none, .v fun s => some (s.get 56)⟩,
    ⟨some 11, none, .v fun s => some (s.get 58)⟩] K s := (den_reg hf _ K s).trans (by kernel_rfl)
theorem r18_eq (K : List Item) (s : St) : den prog ann 23 (.code r18 :: K) s = mreg prog ann 23 none [] none [] [
    ⟨some 59, none, .v fun s => some (s.get 7)⟩,
    ⟨some 60, none, .v fun s => some (s.get 10)⟩,
    ⟨some 61, none, .v fun s => binA prog .shr 3 (s.get 59) (s.get 60)⟩,
    ⟨some 62, none, .v fun s => binA prog .and 3 (s.get 61) (.int .i64 1)⟩,
    ⟨some 63, none, .v fun s => binA prog .eql 3 (s.get 62) (.int .i64 1)⟩] K s := (den_reg hf _ K s).trans (by kernel_rfl)
theorem i5_eq (K : List Item) (s : St) : den prog ann 23 (.code i5 :: K) s = ifV prog ann 23 63 i5t i5e K s (s.get 63) := den_if hf (by kernel_rfl) K s
theorem i5t_eq (K : List Item) (s : St) : den prog ann 23 (.code i5t :: K) s = den prog ann 23 (.code r19 :: K) s := den_flat hf (l := [r19]) (by kernel_rfl) K s
theorem r19_eq (K : List Item) (s : St) : den prog ann 23 (.code r19 :: K) s = mreg prog ann 23 none [] none [] [
    ⟨some 64, none, .v fun s => some (s.get 9)⟩,
    ⟨some 65, none, .v fun s => some (s.get 11)⟩,
    ⟨some 66, none, .v fun s => some (s.get 8)⟩,
    ⟨some 67, none, .v fun s => idxSl 1 (s.get 65) (s.get 66)⟩,
    ⟨some 68, none, .v fun s => loadF false 1 (s.get 67)⟩,
    ⟨some 69, none, .v fun s => binA prog .shl 3 (.int .i64 1) (s.get 68)⟩,
    ⟨some 70, none, .v fun s => binA prog .or 3 (s.get 64) (s.get 69)⟩,
    ⟨some 9, none, .v fun s => some (s.get 70)⟩] K s := (den_reg hf _ K s).trans (by kernel_rfl)
theorem i5e_eq (K : List Item) (s : St) : den prog ann 23 (.code i5e :: K) s = den prog ann 23 (K) s := den_flat hf (l := []) (by kernel_rfl) K s
theorem r20_eq (K : List Item) (s : St) : den prog ann 23 (.code r20 :: K) s = mreg prog ann 23 (some [1, 5, 6, 7, 8, 9, 47, 48, 52, 53, 54]) [] none [] [
    ⟨some 71, none, .v fun s => binA prog .add 3 (s.get 54) (.int .i64 1)⟩,
    ⟨some 54, none, .v fun s => some (s.get 71)⟩] K s := (den_reg hf _ K s).trans (by kernel_rfl)
theorem r21_eq (K : List Item) (s : St) : den prog ann 23 (.code r21 :: K) s = mreg prog ann 23 (some [1, 5, 6, 7, 8, 9, 47, 48]) [] none [] [
    ⟨some 73, none, .v fun s => some (s.get 5)⟩,
    ⟨some 74, none, .v fun s => some (s.get 9)⟩,
    ⟨some 75, none, .v fun s => lookP prog s.m 3 (.str []) (s.get 73) (s.get 74) true⟩,
    ⟨some 72, none, .v fun s => some (s.get 75)⟩,
    ⟨some 76, none, .v fun s => extA (s.get 72) 0⟩,
    ⟨some 77, none, .v fun s => extA (s.get 72) 1⟩,
    ⟨some 12, none, .v fun s => some (s.get 76)⟩,
    ⟨some 13, none, .v fun s => some (s.get 77)⟩] K s := (den_reg hf _ K s).trans (by kernel_rfl)
theorem r22_eq (K : List Item) (s : St) : den prog ann 23 (.code r22 :: K) s = mreg prog ann 23 none [] none [] [
    ⟨some 78, none, .v fun s => some (s.get 13)⟩,
    ⟨some 79, none, .v fun s => unA .not (s.get 78)⟩] K s := (den_reg hf _ K s).trans (by kernel_rfl)
theorem i6_eq (K : List Item) (s : St) : den prog ann 23 (.code i6 :: K) s = ifV prog ann 23 79 i6t i6e K s (s.get 79) := den_if hf (by kernel_rfl) K s
theorem i6t_eq (K : List Item) (s : St) : den prog ann 23 (.code i6t :: K) s = den prog ann 23 (.code r23 :: .code r24 :: K) s := den_flat hf (l := [r23, r24]) (by kernel_rfl) K s
theorem r23_draw : drawOk (fun g => (ann g).pure) (modeOf (ann 23) (idOf r23)) (frzOf (ann 23) (idOf r23)) (opsOf r23) = true := drawOk_of (an := [0, 0, 0, 0, 12, 0, 32, 124, 255]) (by kernel_rfl) (by kernel_rfl)
theorem r23_eq (K : List Item) (s : St) : den prog ann 23 (.code r23 :: K) s = mreg prog ann 23 none [] (some 9) [] [
    ⟨some 80, none, .v fun s => some (s.get 5)⟩,
    ⟨some 81, none, .v fun s => some (s.get 9)⟩,
    ⟨some 82, none, .v fun s => some (s.get 5)⟩,
    ⟨some 83, none, .v fun s => some (s.get 7)⟩,
    ⟨some 84, none, .v fun s => lookP prog s.m 3 (.str []) (s.get 82) (s.get 83) false⟩,
    ⟨some 85, none, .v fun s => some (s.get 8)⟩,
    ⟨some 86, none, .c 0 (fun s => (.fn 59 [] [])) fun s => [(s.get 85)]⟩,
    ⟨some 87, none, .v fun s => binA prog .add 9 (s.get 84) (s.get 86)⟩,
    ⟨none, none, .w false (some 8) fun s => updM prog s.m 3 (s.get 80) (s.get 81) (s.get 87)⟩] K s := (den_regD hf r23_draw K s).trans (by kernel_rfl)
theorem r24_eq (K : List Item) (s : St) : den prog ann 23 (.code r24 :: K) s = mreg prog ann 23 none [] none [] [
    ⟨some 88, none, .v fun s => some (s.get 6)⟩,
    ⟨some 89, none, .v fun s => some (s.get 9)⟩,
    ⟨some 90, none, .v fun s => bslF 1 (bslA 1 1 [.int .i64 0] [(0, (s.get 89))])⟩,
    ⟨some 91, none, .w false none fun s => appendA 1 8 s.m (s.get 88) (s.get 90)⟩,
    ⟨some 6, none, .v fun s => some (s.get 91)⟩] K s := (den_reg hf _ K s).trans (by kernel_rfl)
theorem i6e_eq (K : List Item) (s : St) : den prog ann 23 (.code i6e :: K) s = den prog ann 23 (K) s := den_flat hf (l := []) (by kernel_rfl) K s
theorem r25_eq (K : List Item) (s : St) : den prog ann 23 (.code r25 :: K) s = mreg prog ann 23 (some [1, 5, 6, 7, 47, 48]) [] none [] [
    ⟨some 92, none, .v fun s => binA prog .add 3 (s.get 48) (.int .i64 1)⟩,
    ⟨some 48, none, .v fun s => some (s.get 92)⟩] K s := (den_reg hf _ K s).trans (by kernel_rfl)
theorem r7_eq (K : List Item) (s : St) : den prog ann 23 (.code r7 :: K) s = mreg prog ann 23 (some [1, 5, 6]) [] none [] [
    ⟨some 30, none, .v fun s => some (s.get 6)⟩,
    ⟨some 31, none, .v fun s => sliceSl 1 (s.get 30) (some (.int .i64 1)) none⟩,
    ⟨some 6, none, .v fun s => some (s.get 31)⟩] K s := (den_reg hf _ K s).trans (by kernel_rfl)
theorem r26_eq (K : List Item) (s : St) : den prog ann 23 (.code r26 :: K) s = mreg prog ann 23 (some []) [] none [] [
    ⟨some 2, none, .v fun s => some (.str [])⟩,
    ⟨some 3, none, .v fun s => some (.int .i64 5)⟩] K s := (den_reg hf _ K s).trans (by kernel_rfl)
theorem ret_eq (K : List Item) (s : St) : den prog ann 23 (.code .ret :: K) s = finM true [fun s => some (s.get 2), fun s => some (s.get 3)] s := (den_ret hf K s).trans (by kernel_rfl)
theorem nil_eq (s : St) : den prog ann 23 [] s = finM true [fun s => some (s.get 2), fun s => some (s.get 3)] s := (den_nil hf s).trans (by kernel_rfl)
theorem inBlock_eq (id : Nat) (K : List Item) (s : St) : den prog ann 23 (.inBlock id :: K) s = den prog ann 23 K s := den_inBlock hf id K s
theorem exit_eq (id : Nat) (K : List Item) (s : St) : den prog ann 23 (.code (.exit id) :: K) s = exitV prog ann 23 (exitTo id K) s := den_exitV hf id K s
theorem call_eq (v0 : AV) (m : Mem) (h : closedL [v0] = true) : denC prog ann 23 [v0] m = (den prog ann 23 [.code b] ⟨[(0, v0)], 93, Mem.empty⟩).bind fun r => some (r.1, m) := (denC_pure hf (b := b) (by kernel_rfl) (by kernel_rfl) (by kernel_rfl) h m).trans (by kernel_rfl)
theorem pure_eq : (ann 23).pure = true := by kernel_rfl
attribute [simp] b_eq r0_eq r1_eq i0_eq i0t_eq r2_eq i0e_eq r3_eq r4_eq r5_eq k0_eq l0_eq r6_eq i1_eq i1t_eq i1e_eq k1_eq r8_eq r9_eq i2_eq i2t_eq r10_eq i2e_eq r11_eq k2_eq l2_eq r12_eq i3_eq i3t_eq i3e_eq k3_eq r13_eq r14_eq r15_eq k4_eq l4_eq r16_eq i4_eq i4t_eq i4e_eq k5_eq r17_eq r18_eq i5_eq i5t_eq r19_eq i5e_eq r20_eq r21_eq r22_eq i6_eq i6t_eq r23_eq r24_eq i6e_eq r25_eq r7_eq r26_eq ret_eq nil_eq inBlock_eq exit_eq pure_eq
end brand_Reset

namespace r07_Reset
/-- pommel/pommelref07.Reset -/
noncomputable def b : Code := (Try.f27.body).getD .skip
theorem hf : prog.funcs[27]? = some Try.f27 := by kernel_rfl
noncomputable def r0 : Code := findReg b 0
noncomputable def r1 : Code := findReg b 1
noncomputable def r2 : Code := findReg b 2
noncomputable def r3 : Code := findReg b 3
noncomputable def k0 : Code := findBlk b 0
noncomputable def l0 : Code := loopOf k0
noncomputable def L0 (x1 x5 x6 x7 x8 : AV) (m : Mem) (K : List Item) : Option Res := den prog ann 27 (.code l0 :: .inLoop l0 :: .inBlock 0 :: K) ⟨[(1, x1), (5, x5), (6, x6), (7, x7), (8, x8)], 99, m⟩
noncomputable def r4 : Code := findReg b 4
noncomputable def i0 : Code := findCond b 0
noncomputable def i0t : Code := thenOf i0
noncomputable def i0e : Code := elseOf i0
noncomputable def k1 : Code := findBlk b 1
noncomputable def r6 : Code := findReg b 6
noncomputable def i1 : Code := findCond b 1
noncomputable def i1t : Code := thenOf i1
noncomputable def i1e : Code := elseOf i1
noncomputable def r7 : Code := findReg b 7
noncomputable def r8 : Code := findReg b 8
noncomputable def k2 : Code := findBlk b 2
noncomputable def l2 : Code := loopOf k2
noncomputable def L2 (x1 x5 x6 x7 x8 x9 : AV) (m : Mem) (K : List Item) : Option Res := den prog ann 27 (.code l2 :: .inLoop l2 :: .inBlock 2 :: K) ⟨[(1, x1), (5, x5), (6, x6), (7, x7), (8, x8), (9, x9)], 99, m⟩
noncomputable def r9 : Code := findReg b 9
noncomputable def i2 : Code := findCond b 2
noncomputable def i2t : Code := thenOf i2
noncomputable def i2e : Code := elseOf i2
noncomputable def k3 : Code := findBlk b 3
noncomputable def r11 : Code := findReg b 11
noncomputable def r12 : Code := findReg b 12
noncomputable def k4 : Code := findBlk b 4
noncomputable def l4 : Code := loopOf k4
noncomputable def L4 (x1 x5 x6 x7 x8 x9 x10 x11 : AV) (m : Mem) (K : List Item) : Option Res := den prog ann 27 (.code l4 :: .inLoop l4 :: .inBlock 4 :: K) ⟨[(1, x1), (5, x5), (6, x6), (7, x7), (8, x8), (9, x9), (10, x10), (11, x11)], 99, m⟩
noncomputable def r13 : Code := findReg b 13
noncomputable def i3 : Code := findCond b 3
noncomputable def i3t : Code := thenOf i3
noncomputable def i3e : Code := elseOf i3
noncomputable def k5 : Code := findBlk b 5
noncomputable def r15 : Code := findReg b 15
noncomputable def i4 : Code := findCond b 4
noncomputable def i4t : Code := thenOf i4
noncomputable def i4e : Code := elseOf i4
noncomputable def r16 : Code := findReg b 16
noncomputable def r14 : Code := findReg b 14
noncomputable def r17 : Code := findReg b 17
noncomputable def i5 : Code := findCond b 5
noncomputable def i5t : Code := thenOf i5
noncomputable def i5e : Code := elseOf i5
noncomputable def r18 : Code := findReg b 18
noncomputable def r19 : Code := findReg b 19
noncomputable def r10 : Code := findReg b 10
noncomputable def r5 : Code := findReg b 5
noncomputable def r20 : Code := findReg b 20
theorem b_eq (K : List Item) (s : St) : den prog ann 27 (.code b :: K) s = den prog ann 27 (.code r0 :: .code r1 :: .code r2 :: .code r3 :: .code k0 :: .code r20 :: .code .ret :: K) s := den_flat hf (l := [r0, r1, r2, r3, k0, r20, .ret]) (by kernel_rfl) K s
theorem r0_eq (K : List Item) (s : St) : den prog ann 27 (.code r0 :: K) s = mreg prog ann 27 none [] none [] [
    ⟨some 1, none, .v fun s => frozenPtr (s.get 0)⟩,
    ⟨some 2, none, .v fun s => some (.str [])⟩,
    ⟨some 3, none, .v fun s => some (.bool false)⟩] K s := (den_reg hf _ K s).trans (by kernel_rfl)
theorem r1_eq (K : List Item) (s : St) : den prog ann 27 (.code r1 :: K) s = mreg prog ann 27 none [] none [] [
    ⟨some 12, none, .v fun s => fieldA 0 (s.get 1)⟩,
    ⟨some 13, none, .v fun s => loadF false 1 (s.get 12)⟩,
    ⟨some 14, none, .v fun s => lenSl (s.get 13)⟩,
    ⟨some 15, none, .v fun s => binA prog .shl 3 (.int .i64 1) (s.get 14)⟩,
    ⟨some 16, none, .v fun s => binA prog .sub 3 (s.get 15) (.int .i64 1)⟩,
    ⟨some 4, none, .v fun s => some (s.get 16)⟩] K s := (den_reg hf _ K s).trans (by kernel_rfl)
theorem r2_eq (K : List Item) (s : St) : den prog ann 27 (.code r2 :: K) s = mreg prog ann 27 none [] none [] [
    ⟨some 17, none, .v fun s => some (s.get 4)⟩,
    ⟨some 18, none, .w false none fun s => bslM s.m 1 (bslA 1 1 [.int .i64 0] [(0, (s.get 17))])⟩,
    ⟨some 19, none, .w false none fun s => bslM s.m 1 (bslA 1 1 [.str []] [(0, (.str []))])⟩,
    ⟨some 20, none, .w false none fun s => some (.map s.m.nx, s.m.new (.map 0 [] []))⟩,
    ⟨some 21, none, .v fun s => some (s.get 4)⟩,
    ⟨none, none, .w false none fun s => updM prog s.m 3 (s.get 20) (s.get 21) (.bool true)⟩,
    ⟨some 22, none, .v fun s => some (s.get 20)⟩,
    ⟨some 5, none, .v fun s => some (s.get 18)⟩,
    ⟨some 6, none, .v fun s => some (s.get 19)⟩,
    ⟨some 7, none, .v fun s => some (s.get 22)⟩] K s := (den_reg hf _ K s).trans (by kernel_rfl)
theorem r3_eq (K : List Item) (s : St) : den prog ann 27 (.code r3 :: K) s = mreg prog ann 27 none [] none [] [
    ⟨some 8, none, .v fun s => some (.int .i64 0)⟩] K s := (den_reg hf _ K s).trans (by kernel_rfl)
theorem k0_eq (K : List Item) (t : List (Nat × AV)) (m : Mem) : den prog ann 27 (.code k0 :: K) ⟨t, 99, m⟩ = L0 (get t 1) (get t 5) (get t 6) (get t 7) (get t 8) m K := den_loop_enter hf (b := l0) (id := 4) (l := [1, 5, 6, 7, 8]) (by kernel_rfl) (by kernel_rfl) (by kernel_rfl) K _
theorem l0_eq (K : List Item) (t : List (Nat × AV)) (m : Mem) : den prog ann 27 (.inLoop l0 :: .inBlock 0 :: K) ⟨t, 99, m⟩ = L0 (get t 1) (get t 5) (get t 6) (get t 7) (get t 8) m K := den_loop_again hf (id := 4) (l := [1, 5, 6, 7, 8]) (by kernel_rfl) (by kernel_rfl) (.inBlock 0 :: K) _
theorem L0_eq (x1 x5 x6 x7 x8 : AV) (m : Mem) (K : List Item) : L0 x1 x5 x6 x7 x8 m K = den prog ann 27 (.code r4 :: .code i0 :: .code k1 :: .code r5 :: .inLoop l0 :: .inBlock 0 :: K) ⟨[(1, x1), (5, x5), (6, x6), (7, x7), (8, x8)], 99, m⟩ := den_flat hf (l := [r4, i0, k1, r5]) (by kernel_rfl) _ _
theorem r4_eq (K : List Item) (s : St) : den prog ann 27 (.code r4 :: K) s = mreg prog ann 27 (some [1, 5, 6, 7, 8]) [] none [] [
    ⟨some 23, none, .v fun s => some (s.get 8)⟩,
    ⟨some 24, none, .v fun s => some (s.get 5)⟩,
    ⟨some 25, none, .v fun s => lenSl (s.get 24)⟩,
    ⟨some 26, none, .v fun s => binA prog .lss 3 (s.get 23) (s.get 25)⟩] K s := (den_reg hf _ K s).trans (by kernel_rfl)
theorem i0_eq (K : List Item) (s : St) : den prog ann 27 (.code i0 :: K) s = ifV prog ann 27 26 i0t i0e K s (s.get 26) := den_if hf (by kernel_rfl) K s
theorem i0t_eq (K : List Item) (s : St) : den prog ann 27 (.code i0t :: K) s = den prog ann 27 (K) s := den_flat hf (l := []) (by kernel_rfl) K s
theorem i0e_eq (K : List Item) (s : St) : den prog ann 27 (.code i0e :: K) s = den prog ann 27 (.code (.exit 0) :: K) s := den_flat hf (l := [(.exit 0)]) (by kernel_rfl) K s
theorem k1_eq (K : List Item) (s : St) : den prog ann 27 (.code k1 :: K) s = den prog ann 27 (.code r6 :: .code i1 :: .code r8 :: .code k2 :: .inBlock 1 :: K) s := den_blk hf (b := blkOf k1) (l := [r6, i1, r8, k2]) (by kernel_rfl) (by kernel_rfl) K s
theorem r6_draw : drawOk (fun g => (ann g).pure) (modeOf (ann 27) (idOf r6)) (frzOf (ann 27) (idOf r6)) (opsOf r6) = true := drawOk_of (an := [0, 0, 3, 7, 0, 0, 48, 112, 240, 511, 1023]) (by kernel_rfl) (by kernel_rfl)
theorem r6_eq (K : List Item) (s : St) : den prog ann 27 (.code r6 :: K) s = mreg prog ann 27 none [] (some 11) [] [
    ⟨some 29, none, .v fun s => some (s.get 5)⟩,
    ⟨some 30, none, .v fun s => some (s.get 8)⟩,
    ⟨some 31, none, .v fun s => idxSl 1 (s.get 29) (s.get 30)⟩,
    ⟨some 32, none, .v fun s => loadA false 1 s.m (s.get 31)⟩,
    ⟨some 33, none, .v fun s => some (s.get 5)⟩,
    ⟨some 34, none, .v fun s => some (s.get 8)⟩,
    ⟨some 35, none, .v fun s => idxSl 1 (s.get 33) (s.get 34)⟩,
    ⟨some 36, none, .v fun s => loadA false 1 s.m (s.get 35)⟩,
    ⟨some 37, none, .v fun s => binA prog .sub 3 (s.get 36) (.int .i64 1)⟩,
    ⟨some 38, none, .v fun s => binA prog .and 3 (s.get 32) (s.get 37)⟩,
    ⟨some 39, none, .v fun s => binA prog .eql 3 (s.get 38) (.int .i64 0)⟩] K s := (den_regD hf r6_draw K s).trans (by kernel_rfl)
theorem i1_eq (K : List Item) (s : St) : den prog ann 27 (.code i1 :: K) s = ifV prog ann 27 39 i1t i1e K s (s.get 39) := den_if hf (by kernel_rfl) K s
theorem i1t_eq (K : List Item) (s : St) : den prog ann 27 (.code i1t :: K) s = den prog ann 27 (.code r7 :: .code .ret :: K) s := den_flat hf (l := [r7, .ret]) (by kernel_rfl) K s
theorem r7_eq (K : List Item) (s : St) : den prog ann 27 (.code r7 :: K) s = mreg prog ann 27 none [] none [] [
    ⟨some 40, none, .v fun s => some (s.get 6)⟩,
    ⟨some 41, none, .v fun s => some (s.get 8)⟩,
    ⟨some 42, none, .v fun s => idxSl 1 (s.get 40) (s.get 41)⟩,
    ⟨some 43, none, .v fun s => loadA false 1 s.m (s.get 42)⟩,
    ⟨some 2, none, .v fun s => some (s.get 43)⟩,
    ⟨some 3, none, .v fun s => some (.bool true)⟩] K s := (den_reg hf _ K s).trans (by kernel_rfl)
theorem i1e_eq (K : List Item) (s : St) : den prog ann 27 (.code i1e :: K) s = den prog ann 27 (K) s := den_flat hf (l := []) (by kernel_rfl) K s
theorem r8_eq (K : List Item) (s : St) : den prog ann 27 (.code r8 :: K) s = mreg prog ann 27 none [] none [] [
    ⟨some 9, none, .v fun s => some (.int .i64 0)⟩] K s := (den_reg hf _ K s).trans (by kernel_rfl)
theorem k2_eq (K : List Item) (t : List (Nat × AV)) (m : Mem) : den prog ann 27 (.code k2 :: K) ⟨t, 99, m⟩ = L2 (get t 1) (get t 5) (get t 6) (get t 7) (get t 8) (get t 9) m K := den_loop_enter hf (b := l2) (id := 9) (l := [1, 5, 6, 7, 8, 9]) (by kernel_rfl) (by kernel_rfl) (by kernel_rfl) K _
theorem l2_eq (K : List Item) (t : List (Nat × AV)) (m : Mem) : den prog ann 27 (.inLoop l2 :: .inBlock 2 :: K) ⟨t, 99, m⟩ = L2 (get t 1) (get t 5) (get t 6) (get t 7) (get t 8) (get t 9) m K := den_loop_again hf (id := 9) (l := [1, 5, 6, 7, 8, 9]) (by kernel_rfl) (by kernel_rfl) (.inBlock 2 :: K) _
theorem L2_eq (x1 x5 x6 x7 x8 x9 : AV) (m : Mem) (K : List Item) : L2 x1 x5 x6 x7 x8 x9 m K = den prog ann 27 (.code r9 :: .code i2 :: .code k3 :: .code r10 :: .inLoop l2 :: .inBlock 2 :: K) ⟨[(1, x1), (5, x5), (6, x6), (7, x7), (8, x8), (9, x9)], 99, m⟩ := den_flat hf (l := [r9, i2, k3, r10]) (by kernel_rfl) _ _
theorem r9_eq (K : List Item) (s : St) : den prog ann 27 (.code r9 :: K) s = mreg prog ann 27 (some [1, 5, 6, 7, 8, 9]) [] none [] [
    ⟨some 44, none, .v fun s => some (s.get 9)⟩,
    ⟨some 45, none, .v fun s => fieldA 0 (s.get 1)⟩,
    ⟨some 46, none, .v fun s => loadF false 1 (s.get 45)⟩,
    ⟨some 47, none, .v fun s => idxSl 1 (s.get 46) (.int .i64 0)⟩,
    ⟨some 48, none, .v fun s => loadF false 1 (s.get 47)⟩,
    ⟨some 49, none, .v fun s => lenSl (s.get 48)⟩,
    ⟨some 50, none, .v fun s => binA prog .lss 3 (s.get 44) (s.get 49)⟩] K s := (den_reg hf _ K s).trans (by kernel_rfl)
theorem i2_eq (K : List Item) (s : St) : den prog ann 27 (.code i2 :: K) s = ifV prog ann 27 50 i2t i2e K s (s.get 50) := den_if hf (by kernel_rfl) K s
theorem i2t_eq (K : List Item) (s : St) : den prog ann 27 (.code i2t :: K) s = den prog ann 27 (K) s := den_flat hf (l := []) (by kernel_rfl) K s
theorem i2e_eq (K : List Item) (s : St) : den prog ann 27 (.code i2e :: K) s = den prog ann 27 (.code (.exit 2) :: K) s := den_flat hf (l := [(.exit 2)]) (by kernel_rfl) K s
theorem k3_eq (K : List Item) (s : St) : den prog ann 27 (.code k3 :: K) s = den prog ann 27 (.code r11 :: .code r12 :: .code k4 :: .code r17 :: .code i5 :: .inBlock 3 :: K) s := den_blk hf (b := blkOf k3) (l := [r11, r12, k4, r17, i5]) (by kernel_rfl) (by kernel_rfl) K s
theorem r11_eq (K : List Item) (s : St) : den prog ann 27 (.code r11 :: K) s = mreg prog ann 27 none [] none [] [
    ⟨some 10, none, .v fun s => some (.int .i64 0)⟩] K s := (den_reg hf _ K s).trans (by kernel_rfl)
theorem r12_eq (K : List Item) (s : St) : den prog ann 27 (.code r12 :: K) s = mreg prog ann 27 none [] none [] [
    ⟨some 11, none, .v fun s => some (.int .i64 0)⟩] K s := (den_reg hf _ K s).trans (by kernel_rfl)
theorem k4_eq (K : List Item) (t : List (Nat × AV)) (m : Mem) : den prog ann 27 (.code k4 :: K) ⟨t, 99, m⟩ = L4 (get t 1) (get t 5) (get t 6) (get t 7) (get t 8) (get t 9) (get t 10) (get t 11) m K := den_loop_enter hf (b := l4) (id := 13) (l := [1, 5, 6, 7, 8, 9, 10, 11]) (by kernel_rfl) (by kernel_rfl) (by kernel_rfl) K _
theorem l4_eq (K : List Item) (t : List (Nat × AV)) (m : Mem) : den prog ann 27 (.inLoop l4 :: .inBlock 4 :: K) ⟨t, 99, m⟩ = L4 (get t 1) (get t 5) (get t 6) (get t 7) (get t 8) (get t 9) (get t 10) (get t 11) m K := den_loop_again hf (id := 13) (l := [1, 5, 6, 7, 8, 9, 10, 11]) (by kernel_rfl) (by kernel_rfl) (.inBlock 4 :: K) _
theorem L4_eq (x1 x5 x6 x7 x8 x9 x10 x11 : AV) (m : Mem) (K : List Item) : L4 x1 x5 x6 x7 x8 x9 x10 x11 m K = den prog ann 27 (.code r13 :: .code i3 :: .code k5 :: .code r14 :: .inLoop l4 :: .inBlock 4 :: K) ⟨[(1, x1), (5, x5), (6, x6), (7, x7), (8, x8), (9, x9), (10, x10), (11, x11)], 99, m⟩ := den_flat hf (l := [r13, i3, k5, r14]) (by kernel_rfl) _ _
theorem r13_eq (K : List Item) (s : St) : den prog ann 27 (.code r13 :: K) s = mreg prog ann 27 (some [1, 5, 6, 7, 8, 9, 10, 11]) [] none [] [
    ⟨some 53, none, .v fun s => some (s.get 11)⟩,
    ⟨some 54, none, .v fun s => fieldA 0 (s.get 1)⟩,
    ⟨some 55, none, .v fun s => loadF false 1 (s.get 54)⟩,
    ⟨some 56, none, .v fun s => lenSl (s.get 55)⟩,
    ⟨some 57, none, .v fun s => binA prog .lss 3 (s.get 53) (s.get 56)⟩] K s := (den_reg hf _ K s).trans (by kernel_rfl)
theorem i3_eq (K : List Item) (s : St) : den prog ann 27 (.code i3 :: K) s = ifV prog ann 27 57 i3t i3e K s (s.get 57) := den_if hf (by kernel_rfl) K s
theorem i3t_eq (K : List Item) (s : St) : den prog ann 27 (.code i3t :: K) s = den prog ann 27 (K) s := den_flat hf (l := []) (by kernel_rfl) K s
theorem i3e_eq (K : List Item) (s : St) : den prog ann 27 (.code i3e :: K) s = den prog ann 27 (.code (.exit 4) :: K) s := den_flat hf (l := [(.exit 4)]) (by kernel_rfl) K s
theorem k5_eq (K : List Item) (s : St) : den prog ann 27 (.code k5 :: K) s = den prog ann 27 (.code r15 :: .code i4 :: .inBlock 5 :: K) s := den_blk hf (b := blkOf k5) (l := [r15, i4]) (by kernel_rfl) (by kernel_rfl) K s
theorem r15_eq (K : List Item) (s : St) : den prog ann 27 (.code r15 :: K) s = mreg prog ann 27 none [] none [] [
    ⟨some 60, none, .v fun s => some (s.get 5)⟩,
    ⟨some 61, none, .v fun s => some (s.get 8)⟩,
    ⟨some 62, none, .v fun s => idxSl 1 (s.get 60) (s.get 61)⟩,
    ⟨some 63, none, .v fun s => loadA false 1 s.m (s.get 62)⟩,
    ⟨some 64, none, .v fun s => some (s.get 11)⟩,
    ⟨some 65, none, .v fun s => binA prog .shr 3 (s.get 63) (s.get 64)⟩,
    ⟨some 66, none, .v fun s => binA prog .and 3 (s.get 65) (.int .i64 1)⟩,
    ⟨some 67, none, .v fun s => binA prog .eql 3 (s.get 66) (.int .i64 1)⟩] K s := (den_reg hf _ K s).trans (by kernel_rfl)
theorem i4_eq (K : List Item) (s : St) : den prog ann 27 (.code i4 :: K) s = ifV prog ann 27 67 i4t i4e K s (s.get 67) := den_if hf (by kernel_rfl) K s
theorem i4t_eq (K : List Item) (s : St) : den prog ann 27 (.code i4t :: K) s = den prog ann 27 (.code r16 :: K) s := den_flat hf (l := [r16]) (by kernel_rfl) K s
theorem r16_eq (K : List Item) (s : St) : den prog ann 27 (.code r16 :: K) s = mreg prog ann 27 none [] none [] [
    ⟨some 68, none, .v fun s => some (s.get 10)⟩,
    ⟨some 69, none, .v fun s => fieldA 0 (s.get 1)⟩,
    ⟨some 70, none, .v fun s => loadF false 1 (s.get 69)⟩,
    ⟨some 71, none, .v fun s => some (s.get 11)⟩,
    ⟨some 72, none, .v fun s => idxSl 1 (s.get 70) (s.get 71)⟩,
    ⟨some 73, none, .v fun s => loadF false 1 (s.get 72)⟩,
    ⟨some 74, none, .v fun s => some (s.get 9)⟩,
    ⟨some 75, none, .v fun s => idxSl 1 (s.get 73) (s.get 74)⟩,
    ⟨some 76, none, .v fun s => loadF false 1 (s.get 75)⟩,
    ⟨some 77, none, .v fun s => binA prog .shl 3 (.int .i64 1) (s.get 76)⟩,
    ⟨some 78, none, .v fun s => binA prog .or 3 (s.get 68) (s.get 77)⟩,
    ⟨some 10, none, .v fun s => some (s.get 78)⟩] K s := (den_reg hf _ K s).trans (by kernel_rfl)
theorem i4e_eq (K : List Item) (s : St) : den prog ann 27 (.code i4e :: K) s = den prog ann 27 (K) s := den_flat hf (l := []) (by kernel_rfl) K s
theorem r14_eq (K : List Item) (s : St) : den prog ann 27 (.code r14 :: K) s = mreg prog ann 27 (some [1, 5, 6, 7, 8, 9, 10, 11]) [] none [] [
    ⟨some 58, none, .v fun s => some (s.get 11)⟩,
    ⟨some 59, none, .v fun s => binA prog .add 3 (s.get 58) (.int .i64 1)⟩,
    ⟨some 11, none, .v fun s => some (s.get 59)⟩] K s := (den_reg hf _ K s).trans (by kernel_rfl)
theorem r17_eq (K : List Item) (s : St) : den prog ann 27 (.code r17 :: K) s = mreg prog ann 27 (some [1, 5, 6, 7, 8, 9, 10]) [] none [] [
    ⟨some 79, none, .v fun s => some (s.get 7)⟩,
    ⟨some 80, none, .v fun s => some (s.get 10)⟩,
    ⟨some 81, none, .v fun s => lookP prog s.m 3 (.bool false) (s.get 79) (s.get 80) false⟩,
    ⟨some 82, none, .v fun s => unA .not (s.get 81)⟩] K s := (den_reg hf _ K s).trans (by kernel_rfl)
theorem i5_eq (K : List Item) (s : St) : den prog ann 27 (.code i5 :: K) s = ifV prog ann 27 82 i5t i5e K s (s.get 82) := den_if hf (by kernel_rfl) K s
theorem i5t_eq (K : List Item) (s : St) : den prog ann 27 (.code i5t :: K) s = den prog ann 27 (.code r18 :: .code r19 :: K) s := den_flat hf (l := [r18, r19]) (by kernel_rfl) K s
theorem r18_eq (K : List Item) (s : St) : den prog ann 27 (.code r18 :: K) s = mreg prog ann 27 none [] none [] [
    ⟨some 83, none, .v fun s => some (s.get 7)⟩,
    ⟨some 84, none, .v fun s => some (s.get 10)⟩,
    ⟨none, none, .w false none fun s => updM prog s.m 3 (s.get 83) (s.get 84) (.bool true)⟩] K s := (den_reg hf _ K s).trans (by kernel_rfl)
theorem r19_draw : drawOk (fun g => (ann g).pure) (modeOf (ann 27) (idOf r19)) (frzOf (ann 27) (idOf r19)) (opsOf r19) = true := drawOk_of (an := [0, 0, 2, 7, 0, 0, 0, 96, 224, 0, 527, 2031, 4079, 8191, 16383, 32767]) (by kernel_rfl) (by kernel_rfl)
theorem r19_eq (K : List Item) (s : St) : den prog ann 27 (.code r19 :: K) s = mreg prog ann 27 none [] (some 16) [3085092, 2000087] [
    ⟨some 85, none, .v fun s => some (s.get 5)⟩,
    ⟨some 86, none, .v fun s => some (s.get 10)⟩,
    ⟨some 87, none, .v fun s => bslF 1 (bslA 1 1 [.int .i64 0] [(0, (s.get 86))])⟩,
    ⟨some 88, none, .w false (some 3) fun s => appendA 1 8 s.m (s.get 85) (s.get 87)⟩,
    ⟨some 89, none, .v fun s => some (s.get 6)⟩,
    ⟨some 90, none, .v fun s => some (s.get 6)⟩,
    ⟨some 91, none, .v fun s => some (s.get 8)⟩,
    ⟨some 92, none, .v fun s => idxSl 1 (s.get 90) (s.get 91)⟩,
    ⟨some 93, none, .v fun s => loadA false 1 s.m (s.get 92)⟩,
    ⟨some 94, none, .v fun s => some (s.get 9)⟩,
    ⟨some 95, none, .c 0 (fun s => (.fn 64 [] [])) fun s => [(s.get 94)]⟩,
    ⟨some 96, none, .v fun s => binA prog .add 9 (s.get 93) (s.get 95)⟩,
    ⟨some 97, none, .v fun s => bslF 1 (bslA 1 1 [.str []] [(0, (s.get 96))])⟩,
    ⟨some 98, none, .w false (some 13) fun s => appendA 1 16 s.m (s.get 89) (s.get 97)⟩,
    ⟨some 5, none, .v fun s => some (s.get 88)⟩,
    ⟨some 6, none, .v fun s => some (s.get 98)⟩] K s := (den_regD hf r19_draw K s).trans (by kernel_rfl)
theorem i5e_eq (K : List Item) (s : St) : den prog ann 27 (.code i5e :: K) s = den prog ann 27 (K) s := den_flat hf (l := []) (by kernel_rfl) K s
theorem r10_eq (K : List Item) (s : St) : den prog ann 27 (.code r10 :: K) s = mreg prog ann 27 (some [1, 5, 6, 7, 8, 9]) [] none [] [
    ⟨some 51, none, .v fun s => some (s.get 9)⟩,
    ⟨some 52, none, .v fun s => binA prog .add 3 (s.get 51) (.int .i64 1)⟩,
    ⟨some 9, none, .v fun s => some (s.get 52)⟩] K s := (den_reg hf _ K s).trans (by kernel_rfl)
theorem r5_eq (K : List Item) (s : St) : den prog ann 27 (.code r5 :: K) s = mreg prog ann 27 (some [1, 5, 6, 7, 8]) [] none [] [
    ⟨some 27, none, .v fun s => some (s.get 8)⟩,
    ⟨some 28, none, .v fun s => binA prog .add 3 (s.get 27) (.int .i64 1)⟩,
    ⟨some 8, none, .v fun s => some (s.get 28)⟩] K s := (den_reg hf _ K s).trans (by kernel_rfl)
theorem r20_eq (K : List Item) (s : St) : den prog ann 27 (.code r20 :: K) s = mreg prog ann 27 (some []) [] none [] [
    ⟨some 2, none, .v fun s => some (.str [])⟩,
    ⟨some 3, none, .v fun s => some (.bool false)⟩] K s := (den_reg hf _ K s).trans (by kernel_rfl)
theorem ret_eq (K : List Item) (s : St) : den prog ann 27 (.code .ret :: K) s = finM true [fun s => some (s.get 2), fun s => some (s.get 3)] s := (den_ret hf K s).trans (by kernel_rfl)
theorem nil_eq (s : St) : den prog ann 27 [] s = finM true [fun s => some (s.get 2), fun s => some (s.get 3)] s := (den_nil hf s).trans (by kernel_rfl)
theorem inBlock_eq (id : Nat) (K : List Item) (s : St) : den prog ann 27 (.inBlock id :: K) s = den prog ann 27 K s := den_inBlock hf id K s
theorem exit_eq (id : Nat) (K : List Item) (s : St) : den prog ann 27 (.code (.exit id) :: K) s = exitV prog ann 27 (exitTo id K) s := den_exitV hf id K s
theorem call_eq (v0 : AV) (m : Mem) (h : closedL [v0] = true) : denC prog ann 27 [v0] m = (den prog ann 27 [.code b] ⟨[(0, v0)], 99, Mem.empty⟩).bind fun r => some (r.1, m) := (denC_pure hf (b := b) (by kernel_rfl) (by kernel_rfl) (by kernel_rfl) h m).trans (by kernel_rfl)
theorem pure_eq : (ann 27).pure = true := by kernel_rfl
attribute [simp] b_eq r0_eq r1_eq r2_eq r3_eq k0_eq l0_eq r4_eq i0_eq i0t_eq i0e_eq k1_eq r6_eq i1_eq i1t_eq r7_eq i1e_eq r8_eq k2_eq l2_eq r9_eq i2_eq i2t_eq i2e_eq k3_eq r11_eq r12_eq k4_eq l4_eq r13_eq i3_eq i3t_eq i3e_eq k5_eq r15_eq i4_eq i4t_eq r16_eq i4e_eq r14_eq r17_eq i5_eq i5t_eq r18_eq r19_eq i5e_eq r10_eq r5_eq r20_eq ret_eq nil_eq inBlock_eq exit_eq pure_eq
end r07_Reset
end Go.Proofs.Ythnpflkpjimkfaa

/-
  THE LEAST WORD THAT LEADS ALL STATES TO ONE: the program's search. Conditions: none.
-/
namespace Go.Proofs.Ythnpflkpjimkfaa
open Go.AM
open Go.Proofs.Try (prog)
set_option linter.all false
set_option maxRecDepth 100000
set_option maxHeartbeats 8000000

theorem rst_bits {nv gv : AV} {ps : List AV} {rows : List (List Int)} {good : List Bool} {k : Nat} (hn : IsRows nv ps rows) (v : VB rows good k) {x a : Nat} (hx : x < 64) (ha : a < k) {x1 x5 x6 x47 x48 : AV} {K : List Item} {m : Mem} : ∀ (j s y : Nat), s + j = rows.length → y < 64 →
    brand_Reset.L4 x1 x5 x6 (.int .i64 x) (.int .i64 a) (.int .i64 y) x47 x48 nv (.int .i64 rows.length) (.int .i64 s) m K = brand_Reset.L4 x1 x5 x6 (.int .i64 x) (.int .i64 a) (.int .i64 (stepB rows x a j s y)) x47 x48 nv (.int .i64 rows.length) (.int .i64 rows.length) m K := by
  intro j
  induction j with
  | zero =>
    intro s y h1 hy
    have : s = rows.length := by omega
    subst this
    rfl
  | succ j ih =>
    intro s y h1 hy
    have hs : s < rows.length := by omega
    have n6 := v.n6
    obtain ⟨c1, c2⟩ := nx_lt v hs ha
    have b := v.rl s hs
    have iw := hn.row s hs
    have d1 := iw.idx (i := a) (by omega) .i64
    have e1 := ints_head (l := cth rows s) (i := a) (by omega)
    rw [c2] at e1
    have hws : IntKind.wrap .i64 ((s : Int) + 1) = (s : Int) + 1 := wrap_id (by omega) (by omega)
    have f1 := shr_b hx (s := s) (by omega)
    have f2 := one_b (s := s) hx
    have f3 := shl_b (n := nx rows s a) (by omega)
    have hp := pwB_lt (t := nx rows s a) (by omega)
    have f4 := or_b (x := y) (y := pwB (nx rows s a)) (by omega) (by omega)
    rw [stepB]
    by_cases c : shB x s % 2 = 1
    · have st := ih (s + 1) (y ||| pwB (nx rows s a)) (by omega) (Nat.or_lt_two_pow (n := 6) hy hp)
      simp only [Int.natCast_add, Int.cast_ofNat_Int] at st
      rw [if_pos c] at f2
      rw [if_pos c, ← st, brand_Reset.L4_eq]
      simp [hs, hn.idx hs, hn.head hs, d1, e1, f1, f2, f3, f4, hws, -binA_shl, -binA_shr, -binA_and, -binA_or]
      done
    · have st := ih (s + 1) y (by omega) hy
      simp only [Int.natCast_add, Int.cast_ofNat_Int] at st
      rw [if_neg c] at f2
      rw [if_neg c, ← st, brand_Reset.L4_eq]
      simp [hs, hn.idx hs, hn.head hs, d1, e1, f1, f2, hws, -binA_shl, -binA_shr, -binA_and, -binA_or]
      done
noncomputable def KS : List Item := [.code brand_Reset.r26, .code .ret]
noncomputable def KSI : List Item := .inBlock 1 :: .code brand_Reset.r7 :: .inLoop brand_Reset.l0 :: .inBlock 0 :: KS
theorem rst_in {nv gv : AV} {ps : List AV} {rows : List (List Int)} {good : List Bool} {k : Nat} (hn : IsRows nv ps rows) (v : VB rows good k) {iw i x : Nat} {w : List UInt8} (hx : x < 64) {r : Res} :
    ∀ (j a iq : Nat) (m : Mem) (q : AV) (S : List Nat × List (List UInt8)), a + j = k → Mp m iw (S.1.map encS) (S.2.map .str) → Gl m q iq 1 (S.1.length - i) ((S.1.drop i).map encS) → iw ≠ iq → S.1[i]? = some x → S.2[i]? = some w → BOk (· < 64) List.length S →
    (∀ m' q' iq', Mp m' iw ((bIn (nxS rows) extL x w j a S).1.map encS) ((bIn (nxS rows) extL x w j a S).2.map .str) → Gl m' q' iq' 1 ((bIn (nxS rows) extL x w j a S).1.length - i) (((bIn (nxS rows) extL x w j a S).1.drop i).map encS) → iw ≠ iq' →
      brand_Reset.L0 (.fptr [nv, gv]) (.map iw) (tlV q' 1) m' KS = some r) →
    brand_Reset.L2 (.fptr [nv, gv]) (.map iw) q (.int .i64 x) (.int .i64 k) (.int .i64 a) m KSI = some r := by
  intro j
  induction j with
  | zero =>
    intro a iq m q S h1 hm hq hne hS1 hS2 hS hk
    have e : a = k := by omega
    subst e
    have hi := (List.getElem?_eq_some_iff.1 hS1).1
    have hk := hk m q iq hm hq hne
    rw [brand_Reset.L2_eq]
    simp [KSI, hq.cut (by omega), hk]
    done
  | succ j ih =>
    intro a iq m q S h1 hm hq hne hS1 hS2 hS hk
    have ha : a < k := by omega
    have hi := (List.getElem?_eq_some_iff.1 hS1).1
    have n6 := v.n6
    have hwi : IntKind.wrap .i64 ((a : Int) + 1) = (a : Int) + 1 := wrap_id (by omega) (by have := v.k3; omega)
    have ha3 : a < 3 := by have := v.k3; omega
    have hlt := fun m => letter_spec ha3 m
    have hiq : iq < m.nx := hq.lt
    have hiw : iw < m.nx := hm.2
    have few := sets_few hS.nd hS.all
    have K := keysS (· < 64)
    have hy : nxS rows x a < 64 := stepB_lt v ha rows.length 0 0 (by omega) (by omega)
    have sb := fun (x1 x5 x6 x47 x48 : AV) (m : Mem) (K : List Item) => rst_bits (gv := gv) hn v hx ha (x1 := x1) (x5 := x5) (x6 := x6) (x47 := x47) (x48 := x48) (m := m) (K := K) rows.length 0 0 (by omega) (by omega)
    simp only [Int.ofNat_zero, Int.cast_ofNat_Int] at sb
    have sb' : stepB rows x a rows.length 0 0 = nxS rows x a := rfl
    simp only [sb'] at sb
    have l1 := fun z b => hm.look K hS.all hS.len hy z b
    have l2 := fun z b => hm.look K hS.all hS.len (c := x) hx z b
    rw [lkP_at hS.nd hS1 hS2] at l2
    simp only [encS] at l1 l2
    rw [bIn] at hk
    by_cases hc : nxS rows x a ∈ S.1
    · rw [if_pos hc] at hk
      obtain ⟨i', hi'⟩ := List.getElem?_of_mem hc
      have hi2 : i' < S.2.length := by rw [← hS.len]; exact (List.getElem?_eq_some_iff.1 hi').1
      have q1 := lkP_at hS.nd hi' (List.getElem?_eq_getElem hi2)
      rw [q1] at l1
      have st := ih (a + 1) iq m q S (by omega) hm hq hne hS1 hS2 hS hk
      simp only [Int.natCast_add, Int.cast_ofNat_Int] at st
      rw [brand_Reset.L2_eq]
      simp [ha, hn.len, sb]
      rw [brand_Reset.L4_eq]
      simp [l1, hwi, st]
      done
    · rw [if_neg hc] at hk
      have q1 := lkP_none (vs := S.2) hc
      rw [q1] at l1
      have hwl : w.length ≤ 64 := by
        have h1 := hS.wl w (List.mem_of_getElem? hS2)
        have h2 := hS.len
        omega
      have hll : w.length + (ltr a).length ≤ 4611686018427387904 := by simp [ltr]; omega
      have l2' := fun n => (hm.fr (m' := ⟨m.h, n⟩) rfl)
      have hm2 : Mp ⟨m.h, m.nx + 9⟩ iw (S.1.map encS) (S.2.map .str) := hm.fr rfl (by show iw < m.nx + 9; omega)
      have hm3 : Mp ⟨m.h, m.nx + 8⟩ iw (S.1.map encS) (S.2.map .str) := hm.fr rfl (by show iw < m.nx + 8; omega)
      have l2 := fun z b => hm2.look K hS.all hS.len (c := x) hx z b
      rw [lkP_at hS.nd hS1 hS2] at l2
      simp only [encS] at l2
      obtain ⟨m2, p1, p2, p3, p4⟩ := hm3.put K hS.all hS.len hy hc (extL w a)
      simp only [encS, extL] at p1
      have hq2 : Gl ⟨m2.h, m.nx + 9⟩ q iq 1 (S.1.length - i) ((S.1.drop i).map encS) := hq.fr (by show m2.h iq = m.h iq; rw [p4 iq (fun e => hne e.symm)]) (by show iq < m.nx + 9; omega)
      obtain ⟨q', m3, iq', g1, g2, g3, g4, g5⟩ := hq2.app (by' := 8) (ys := [encS (nxS rows x a)]) rfl (by simp; omega)
      have hm4 : Mp m3 iw ((S.1 ++ [nxS rows x a]).map encS) ((S.2 ++ [extL w a]).map .str) := p2.fr (by
        have := g5 iw (by show iw < m.nx + 9; omega) hne
        exact this) (by
        have h1 : m.nx + 9 ≤ m3.nx := g3
        omega)
      have st := ih (a + 1) iq' m3 q' (S.1 ++ [nxS rows x a], S.2 ++ [extL w a]) (by omega) hm4 (by
        have e : (S.1 ++ [nxS rows x a]).length - i = S.1.length - i + 1 := by simp; omega
        show Gl m3 q' iq' 1 ((S.1 ++ [nxS rows x a]).length - i) (((S.1 ++ [nxS rows x a]).drop i).map encS)
        rw [e, List.drop_append_of_le_length (by omega), List.map_append]
        exact g2) (by
        rcases g4 with e | e
        · rw [e]; exact hne
        · rw [e]; show iw ≠ m.nx + 9; omega) (by rw [List.getElem?_append_left (by omega)]; exact hS1) (by rw [List.getElem?_append_left (by rw [← hS.len]; omega)]; exact hS2) (bok_add hS hy hc (by
        have := hS.wl w (List.mem_of_getElem? hS2)
        simp [extL, ltr]; omega)) hk
      simp only [Int.natCast_add, Int.cast_ofNat_Int] at st
      simp only [encS] at g1
      rw [brand_Reset.L2_eq]
      simp [ha, hn.len, sb]
      rw [brand_Reset.L4_eq]
      simp [l1, hwi, l2, hlt, hll, p1, hq.one, g1, g2.one, st]
      done
theorem rst_out {nv gv : AV} {ps : List AV} {rows : List (List Int)} {good : List Bool} {k : Nat} (hn : IsRows nv ps rows) (v : VB rows good k) {iw : Nat} :
    ∀ (f i iq : Nat) (m : Mem) (q : AV) (S : List Nat × List (List UInt8)), Mp m iw (S.1.map encS) (S.2.map .str) → Gl m q iq 1 (S.1.length - i) ((S.1.drop i).map encS) → iw ≠ iq → BOk (· < 64) List.length S → i ≤ S.1.length → 64 < f + i →
    brand_Reset.L0 (.fptr [nv, gv]) (.map iw) q m KS = some (resP (bfs (nxS rows) extL stS k f i S), Mem.empty) := by
  intro f
  induction f with
  | zero =>
    intro i iq m q S hm hq hne hS hi hf
    have few := sets_few hS.nd hS.all
    omega
  | succ f ih =>
    intro i iq m q S hm hq hne hS hi hf
    by_cases c : i < S.1.length
    · have hx := List.getElem?_eq_getElem c
      have c2 : i < S.2.length := by rw [← hS.len]; exact c
      have hw := List.getElem?_eq_getElem c2
      generalize S.1[i] = x at hx
      generalize S.2[i] = w at hw
      have hx6 : x < 64 := hS.all x (List.mem_of_getElem? hx)
      have sok : 0 < S.1.length - i := by omega
      rw [bfs, hx, hw]
      simp only []
      have ld := hq.load1 (i := 0) (by omega)
      have e0 : ((S.1.drop i).map encS)[0]? = some (encS x) := by simp [hx]
      rw [e0] at ld
      have hi0 := hq.idx0 (by omega) .i64
      have few := sets_few hS.nd hS.all
      have l1 := fun z b => hm.look (keysS (· < 64)) hS.all hS.len (c := x) hx6 z b
      rw [lkP_at hS.nd hx hw] at l1
      have f1 := low_b hx6
      simp only [encS] at l1 ld
      by_cases hst : stS x = true
      · rw [if_pos hst]
        have hst' : lowB x = 0 := by simpa [stS] using hst
        rw [hst'] at f1
        simp only [Int.ofNat_zero, Int.cast_ofNat_Int] at f1
        rw [brand_Reset.L0_eq]
        simp [hq.len, sok, hi0, ld, f1, l1, resP, -binA_and]
        done
      · rw [if_neg hst]
        have hst' : ¬ lowB x = 0 := by simpa [stS] using hst
        have r0 := v.rl 0 v.n1
        have i0 := hn.idx (i := 0) v.n1 .i64
        have j0 := hn.head (i := 0) v.n1
        have iw0 := hn.row 0 v.n1
        have st := rst_in (gv := gv) hn v (iw := iw) (i := i) (x := x) (w := w) hx6 k 0 iq m q S (by omega) hm hq hne hx hw hS (fun m' q' iq' h1 h2 h3 => by
          obtain ⟨p', q'', e1, e2⟩ := bIn_pre (nxS rows) extL x w k 0 S
          have hS' := bIn_ok (nxS rows) extL (ok := (· < 64)) (ln := List.length) (k := k) (fun y a hy ha => stepB_lt v ha rows.length 0 0 (by omega) (by omega)) (fun w a => by simp [extL, ltr]) x w hx6 k 0 S (by omega) hS (hS.wl w (List.mem_of_getElem? hw))
          have hlen : i < (bIn (nxS rows) extL x w k 0 S).1.length := by rw [e1]; simp; omega
          have ht := h2.tail (by omega)
          exact ih (i + 1) iq' m' _ _ h1 (by
            have e : (bIn (nxS rows) extL x w k 0 S).1.length - (i + 1) = (bIn (nxS rows) extL x w k 0 S).1.length - i - 1 := by omega
            rw [e, ← List.drop_drop, List.map_drop]; exact ht) h3 hS' (by omega) (by omega))
        simp only [Int.ofNat_zero, Int.cast_ofNat_Int] at st i0
        rw [List.drop_zero] at i0 j0
        rw [brand_Reset.L0_eq]
        simp [hq.len, sok, hi0, ld, f1, hst', i0, j0, iw0.len, r0, -binA_and, show ¬ (lowB x : Int) = 0 by omega]
        exact st
    · have c0 : S.1.length - i = 0 := by omega
      have hx : S.1[i]? = none := List.getElem?_eq_none (by omega)
      have hl := hq.len
      rw [c0] at hl
      rw [bfs, hx, brand_Reset.L0_eq]
      simp [hl, resP, KS]
      done
theorem all_b {rows : List (List Int)} {good : List Bool} {k : Nat} (v : VB rows good k) : IntKind.wrap .i64 ((pwB rows.length : Int) - 1) = ((pwB rows.length - 1 : Nat) : Int) ∧ pwB rows.length - 1 < 64 := by
  have n6 := v.n6
  have h : pwB rows.length ≤ 64 := Nat.pow_le_pow_right (i := rows.length) (j := 6) (by omega) n6
  have h0 : 0 < pwB rows.length := Nat.pow_pos (by omega)
  exact ⟨by rw [wrap_id (by omega) (by omega)]; omega, by omega⟩
theorem reset_spec {nv gv : AV} {ps : List AV} {rows : List (List Int)} {good : List Bool} (hn : IsRows nv ps rows) (hg : IsB gv good) (hl : rows.length ≤ 1000) (hgl : good.length ≤ 1000) (hr : ∀ i, i < rows.length → (cth rows i).length ≤ 1000) (m : Mem) :
    denC prog ann 23 [.agg [nv, gv]] m = some (if validB rows good = true then resP (rstW rows (cth rows 0).length) else .tup [.str [], .int .i64 1], m) := by
  have h1 := fun m => valid_spec hn hg hl hgl hr m
  rw [brand_Reset.call_eq _ _ (by simp [hn.closed, hg.closed])]
  cases c0 : validB rows good with
  | false =>
    rw [c0] at h1
    simp [hn.one, hg.one, hn.closed, hg.closed, h1]
    done
  | true =>
    rw [c0] at h1
    have v := VB.of c0
    obtain ⟨f0, f1⟩ := all_b v
    have f2 := shl_b v.n6
    have hm0 : Mp ⟨upd Mem.empty.h 0 (some (AObj.map 0 [] [])), 1⟩ 0 (([] : List Nat).map encS) (([] : List (List UInt8)).map .str) := ⟨⟨0, by simp⟩, by show 0 < 1; omega⟩
    obtain ⟨m1, p1, p2, p3, p4⟩ := hm0.put (keysS (· < 64)) (by simp) rfl f1 (by simp) []
    simp only [encS] at p1
    have p3 : m1.nx = 1 := p3
    have st := rst_out (gv := gv) hn v (iw := 0) 65 0 1 ⟨upd m1.h 1 (some (AObj.cells [.int .i64 ((pwB rows.length - 1 : Nat) : Int)])), 2⟩ (.sl 1 1 0 1 1) ([pwB rows.length - 1], [[]]) (p2.fr (show upd m1.h 1 (some (AObj.cells [.int .i64 ((pwB rows.length - 1 : Nat) : Int)])) 0 = m1.h 0 from updNe (by omega)) (by show 0 < 2; omega)) ⟨⟨[], rfl, by simp [encS]⟩, rfl, by show 1 < 2; omega⟩ (by omega) ⟨by simp, by simpa using f1, rfl, by simp⟩ (by simp) (by omega)
    simp [hn.one, hg.one, hn.closed, hg.closed, h1, hn.len, f2, f0, p1, p3, -binA_shl]
    simp only [KS] at st
    rw [st]
    rfl
end Go.Proofs.Ythnpflkpjimkfaa

/-
  THE LEAST WORD THAT ONLY ONE OF TWO BRANDS ACCEPTS: the specification's search. Conditions: none.
-/
namespace Go.Proofs.Ythnpflkpjimkfaa
open Go.AM
open Go.Proofs.Try (prog)
set_option linter.all false
set_option maxRecDepth 100000
set_option maxHeartbeats 8000000

noncomputable def KRD : List Item := [.code r07_Differ.r15, .code .ret]
noncomputable def KRI : List Item := .inBlock 1 :: .code r07_Differ.r4 :: .inLoop r07_Differ.l0 :: .inBlock 0 :: KRD

/-- What lies in memory: the pairs, their words, the pairs known. -/
structure Rd (m : Mem) (x6 x7 : AV) (i6 i7 i8 : Nat) (S : List PN × List (List UInt8)) : Prop where
  p : Gl m x6 i6 2 S.1.length (flP S.1)
  w : Gl m x7 i7 1 S.2.length (S.2.map .str)
  k : Mp m i8 (S.1.map encP) ((S.1.map fun _ => true).map .bool)
  d1 : i6 ≠ i7
  d2 : i6 ≠ i8
  d3 : i7 ≠ i8

def rresP : Option (List UInt8) → AV
  | some w => .tup [.str w, .bool true]
  | none => .tup [.str [], .bool false]
end Go.Proofs.Ythnpflkpjimkfaa

/-
  THE LEAST WORD THAT LEADS ALL STATES TO ONE: the specification's search. Conditions: none.
-/
namespace Go.Proofs.Ythnpflkpjimkfaa
open Go.AM
open Go.Proofs.Try (prog)
set_option linter.all false
set_option maxRecDepth 100000
set_option maxHeartbeats 8000000

theorem frz_85_92 (s : St) : frz1 s 3085092 = bif apart2 s 85 92 then some s else none := rfl
theorem frz_87 (s : St) : frz1 s 2000087 = bif nsl (s.get 87) then some s else none := rfl
/-- What lies in memory: the sets, their words, the sets known. -/
structure Rs (m : Mem) (x6 x7 : AV) (i6 i7 i8 : Nat) (S : List Nat × List (List UInt8)) : Prop where
  p : Gl m x6 i6 1 S.1.length (S.1.map encS)
  w : Gl m x7 i7 1 S.2.length (S.2.map .str)
  k : Mp m i8 (S.1.map encS) ((S.1.map fun _ => true).map .bool)
  d1 : i6 ≠ i7
  d2 : i6 ≠ i8
  d3 : i7 ≠ i8

theorem rrs_bits {nv gv : AV} {ps : List AV} {rows : List (List Int)} {good : List Bool} {k : Nat} (hn : IsRows nv ps rows) (v : VB rows good k) {x a i : Nat} (hx : x < 64) (ha : a < k) {x5 x6 x7 : AV} {K : List Item} {m : Mem} {i5 n5 : Nat} {xs5 : List AV} (h5 : Gl m x5 i5 1 n5 xs5) (hi : i < n5) (hxs : xs5[i]? = some (.int .i64 x)) : ∀ (j s y : Nat), s + j = rows.length → y < 64 →
    r07_Reset.L4 (.fptr [nv, gv]) x5 x6 x7 (.int .i64 i) (.int .i64 a) (.int .i64 y) (.int .i64 s) m K = r07_Reset.L4 (.fptr [nv, gv]) x5 x6 x7 (.int .i64 i) (.int .i64 a) (.int .i64 (stepB rows x a j s y)) (.int .i64 rows.length) m K := by
  intro j
  have ld := h5.load1 hi
  rw [hxs] at ld
  have hidx := h5.idx hi .i64
  induction j with
  | zero =>
    intro s y h1 hy
    have : s = rows.length := by omega
    subst this
    rfl
  | succ j ih =>
    intro s y h1 hy
    have hs : s < rows.length := by omega
    have n6 := v.n6
    obtain ⟨c1, c2⟩ := nx_lt v hs ha
    have b := v.rl s hs
    have iw := hn.row s hs
    have d1 := iw.idx (i := a) (by omega) .i64
    have e1 := ints_head (l := cth rows s) (i := a) (by omega)
    rw [c2] at e1
    have hws : IntKind.wrap .i64 ((s : Int) + 1) = (s : Int) + 1 := wrap_id (by omega) (by omega)
    have f1 := shr_b hx (s := s) (by omega)
    have f2 := one_b (s := s) hx
    have f3 := shl_b (n := nx rows s a) (by omega)
    have hp := pwB_lt (t := nx rows s a) (by omega)
    have f4 := or_b (x := y) (y := pwB (nx rows s a)) (by omega) (by omega)
    rw [stepB]
    by_cases c : shB x s % 2 = 1
    · have st := ih (s + 1) (y ||| pwB (nx rows s a)) (by omega) (Nat.or_lt_two_pow (n := 6) hy hp)
      simp only [Int.natCast_add, Int.cast_ofNat_Int] at st
      rw [if_pos c] at f2
      rw [if_pos c, ← st, r07_Reset.L4_eq]
      simp [hs, hn.len, hidx, ld, hn.idx hs, hn.head hs, d1, e1, f1, f2, f3, f4, hws, -binA_shl, -binA_shr, -binA_and, -binA_or]
      done
    · have st := ih (s + 1) y (by omega) hy
      simp only [Int.natCast_add, Int.cast_ofNat_Int] at st
      rw [if_neg c] at f2
      rw [if_neg c, ← st, r07_Reset.L4_eq]
      simp [hs, hn.len, hidx, ld, hn.idx hs, hn.head hs, d1, e1, f1, f2, hws, -binA_shl, -binA_shr, -binA_and, -binA_or]
      done
noncomputable def KRS : List Item := [.code r07_Reset.r20, .code .ret]
noncomputable def KRSI : List Item := .inBlock 1 :: .code r07_Reset.r5 :: .inLoop r07_Reset.l0 :: .inBlock 0 :: KRS
theorem rrs_in {nv gv : AV} {ps : List AV} {rows : List (List Int)} {good : List Bool} {k : Nat} (hn : IsRows nv ps rows) (v : VB rows good k) {i8 i x : Nat} {w : List UInt8} (hx : x < 64) {r : Res} :
    ∀ (j a i6 i7 : Nat) (m : Mem) (x6 x7 : AV) (S : List Nat × List (List UInt8)), a + j = k → Rs m x6 x7 i6 i7 i8 S → S.1[i]? = some x → S.2[i]? = some w → BOk (· < 64) List.length S →
    (∀ m' x6' x7' i6' i7', Rs m' x6' x7' i6' i7' i8 (bIn (nxS rows) extL x w j a S) →
      r07_Reset.L0 (.fptr [nv, gv]) x6' x7' (.map i8) (.int .i64 ((i : Int) + 1)) m' KRS = some r) →
    r07_Reset.L2 (.fptr [nv, gv]) x6 x7 (.map i8) (.int .i64 i) (.int .i64 a) m KRSI = some r := by
  intro j
  induction j with
  | zero =>
    intro a i6 i7 m x6 x7 S h1 R hS1 hS2 hS hk
    have e : a = k := by omega
    subst e
    have hi := (List.getElem?_eq_some_iff.1 hS1).1
    have few := sets_few hS.nd hS.all
    have hwi : IntKind.wrap .i64 ((i : Int) + 1) = (i : Int) + 1 := wrap_id (by omega) (by omega)
    have hk := hk m x6 x7 i6 i7 R
    have i0 := hn.idx (i := 0) v.n1 .i64
    have j0 := hn.head (i := 0) v.n1
    have iw0 := hn.row 0 v.n1
    have r0 := v.rl 0 v.n1
    simp only [Int.ofNat_zero, Int.cast_ofNat_Int, List.drop_zero] at i0 j0
    rw [r07_Reset.L2_eq]
    simp [KRSI, i0, j0, iw0.len, r0, hwi, hk]
    done
  | succ j ih =>
    intro a i6 i7 m x6 x7 S h1 R hS1 hS2 hS hk
    have ha : a < k := by omega
    have hi := (List.getElem?_eq_some_iff.1 hS1).1
    have hi2 := (List.getElem?_eq_some_iff.1 hS2).1
    have n6 := v.n6
    have hwi : IntKind.wrap .i64 ((a : Int) + 1) = (a : Int) + 1 := wrap_id (by omega) (by have := v.k3; omega)
    have ha3 : a < 3 := by have := v.k3; omega
    have hlt := fun m => rletter_spec ha3 m
    have i0 := hn.idx (i := 0) v.n1 .i64
    have j0 := hn.head (i := 0) v.n1
    have iw0 := hn.row 0 v.n1
    have r0 := v.rl 0 v.n1
    simp only [Int.ofNat_zero, Int.cast_ofNat_Int, List.drop_zero] at i0 j0
    have few := sets_few hS.nd hS.all
    have R0 := R
    obtain ⟨R1, R2, R3, n1, n2, n3⟩ := R
    have t6 := R1.lt
    have t7 := R2.lt
    have t8 := R3.2
    have K := keysS (· < 64)
    have hy : nxS rows x a < 64 := stepB_lt v ha rows.length 0 0 (by omega) (by omega)
    have hs1 : (S.1.map encS)[i]? = some (.int .i64 x) := by simp [hS1, encS]
    have sb := fun (x6 x7 : AV) (K : List Item) => rrs_bits (gv := gv) hn v hx ha (x6 := x6) (x7 := x7) (K := K) R1 hi hs1 rows.length 0 0 (by omega) (by omega)
    simp only [Int.ofNat_zero, Int.cast_ofNat_Int] at sb
    have sb' : stepB rows x a rows.length 0 0 = nxS rows x a := rfl
    simp only [sb'] at sb
    have l1 := R3.look K hS.all (by simp) hy (.bool false) false
    rw [lkP_tt] at l1
    rw [bIn] at hk
    by_cases hc : nxS rows x a ∈ S.1
    · rw [if_pos hc] at hk
      rw [if_pos hc] at l1
      simp only [encS] at l1
      have st := ih (a + 1) i6 i7 m x6 x7 S (by omega) R0 hS1 hS2 hS hk
      simp only [Int.natCast_add, Int.cast_ofNat_Int] at st
      rw [r07_Reset.L2_eq]
      simp [ha, i0, j0, iw0.len, r0, sb]
      rw [r07_Reset.L4_eq]
      simp [hn.len, l1, hwi, st]
      done
    · rw [if_neg hc] at hk
      rw [if_neg hc] at l1
      simp only [encS] at l1
      obtain ⟨m2, p1, p2, p3, p4⟩ := R3.put K hS.all (by simp) hy hc true
      simp only [encS] at p1
      have p3 : m2.nx = m.nx := p3
      have f : ∀ j, j ≠ i8 → m2.h j = m.h j := fun j h2 => p4 j h2
      have hq1 : Gl ⟨m2.h, m.nx + 3⟩ x6 i6 1 S.1.length (S.1.map encS) := R1.fr (f i6 n2) (by show i6 < m.nx + 3; omega)
      obtain ⟨y6, m3, j6, g1, g2, g3, g4, g5⟩ := hq1.app (by' := 8) (ys := [encS (nxS rows x a)]) rfl (by simp; omega)
      simp only at g3 g4 g5
      have f7 : m3.h i7 = m.h i7 := by rw [g5 i7 (by omega) (fun e => n1 e.symm), f i7 n3]
      have hw1 : Gl ⟨m3.h, m.nx + 16⟩ x7 i7 1 S.2.length (S.2.map .str) := R2.fr f7 (by show i7 < m.nx + 16; omega)
      have hw2 : Gl ⟨m3.h, m.nx + 13⟩ x7 i7 1 S.2.length (S.2.map .str) := R2.fr f7 (by show i7 < m.nx + 13; omega)
      obtain ⟨y7, m4, j7, u1, u2, u3, u4, u5⟩ := hw2.app (by' := 16) (ys := [.str (extL w a)]) rfl (by have := hS.len; simp; omega)
      simp only at u3 u4 u5
      have hj6 : j6 < m.nx + 13 := by rcases g4 with e | e <;> omega
      have hj67 : j6 ≠ i7 := by rcases g4 with e | e <;> omega
      have hwl : w.length ≤ 64 := by
        have h1 := hS.wl w (List.mem_of_getElem? hS2)
        have h2 := hS.len
        omega
      have hll : w.length + (ltr a).length ≤ 4611686018427387904 := by simp [ltr]; omega
      have e8 : m4.h i8 = m2.h i8 := by rw [u5 i8 (by omega) (fun e => n3 e.symm), g5 i8 (by omega) (fun e => n2 e.symm)]
      have R' : Rs ⟨m4.h, m.nx + 16⟩ y6 y7 j6 j7 i8 (S.1 ++ [nxS rows x a], S.2 ++ [extL w a]) := by
        refine ⟨?_, ?_, ?_, ?_, ?_, ?_⟩
        · show Gl _ _ _ _ ((S.1 ++ [nxS rows x a]).length) ((S.1 ++ [nxS rows x a]).map encS)
          rw [List.map_append, List.length_append]
          exact g2.fr (u5 j6 hj6 hj67) (by show j6 < m.nx + 16; omega)
        · show Gl _ _ _ _ ((S.2 ++ [extL w a]).length) ((S.2 ++ [extL w a]).map .str)
          rw [List.map_append, List.length_append]
          exact u2.fr rfl (by show j7 < m.nx + 16; rcases u4 with e | e <;> omega)
        · show Mp _ _ ((S.1 ++ [nxS rows x a]).map encS) (((S.1 ++ [nxS rows x a]).map fun _ => true).map .bool)
          have e : (S.1 ++ [nxS rows x a]).map (fun _ => true) = S.1.map (fun _ => true) ++ [true] := by simp
          rw [e]
          exact p2.fr e8 (by show i8 < m.nx + 16; omega)
        · rcases u4 with e | e <;> omega
        · rcases g4 with e | e <;> omega
        · rcases u4 with e | e <;> omega
      have st := ih (a + 1) j6 j7 ⟨m4.h, m.nx + 16⟩ y6 y7 _ (by omega) R' (by rw [List.getElem?_append_left (by omega)]; exact hS1) (by rw [List.getElem?_append_left (by omega)]; exact hS2) (bok_add hS hy hc (by
        have := hS.wl w (List.mem_of_getElem? hS2)
        simp [extL, ltr]; omega)) hk
      simp only [Int.natCast_add, Int.cast_ofNat_Int] at st
      simp only [encS] at g1
      simp only [extL] at u1
      have ld := hw1.load1 hi2
      have hs2 : (S.2.map AV.str)[i]? = some (.str w) := by simp [hS2]
      rw [hs2] at ld
      have o6 := R1.oid
      have o7 := R2.oidE 1 i
      have n1' : (i6 == i7) = false := beq_eq_false_iff_ne.2 n1
      rw [r07_Reset.L2_eq]
      simp [ha, i0, j0, iw0.len, r0, sb]
      rw [r07_Reset.L4_eq]
      simp [frz_85_92, frz_87, apart2, nsl, o6, o7, n1', frzL, hn.len, l1, hwi, hlt, p1, p3, hll, R1.one, g1, g2.one, R2.one, hw1.idx hi2, ld, u1, u2.one, st]
      done
theorem rrs_out {nv gv : AV} {ps : List AV} {rows : List (List Int)} {good : List Bool} {k : Nat} (hn : IsRows nv ps rows) (v : VB rows good k) {i8 : Nat} :
    ∀ (f i i6 i7 : Nat) (m : Mem) (x6 x7 : AV) (S : List Nat × List (List UInt8)), Rs m x6 x7 i6 i7 i8 S → BOk (· < 64) List.length S → i ≤ S.1.length → 64 < f + i →
    r07_Reset.L0 (.fptr [nv, gv]) x6 x7 (.map i8) (.int .i64 i) m KRS = some (rresP (bfs (nxS rows) extL stS k f i S), Mem.empty) := by
  intro f
  induction f with
  | zero =>
    intro i i6 i7 m x6 x7 S R hS hi hf
    have few := sets_few hS.nd hS.all
    omega
  | succ f ih =>
    intro i i6 i7 m x6 x7 S R hS hi hf
    by_cases c : i < S.1.length
    · have hx := List.getElem?_eq_getElem c
      have c2 : i < S.2.length := by rw [← hS.len]; exact c
      have hw := List.getElem?_eq_getElem c2
      generalize S.1[i] = x at hx
      generalize S.2[i] = w at hw
      have hx6 : x < 64 := hS.all x (List.mem_of_getElem? hx)
      rw [bfs, hx, hw]
      simp only []
      have hs1 : (S.1.map encS)[i]? = some (.int .i64 x) := by simp [hx, encS]
      have ld0 : ∀ m' : Mem, m'.h i6 = m.h i6 → i6 < m'.nx → loadA false 1 m' (elP x6 1 i) = some (.int .i64 x) := fun m' h1 h2 => by
        have := (R.p.fr h1 h2).load1 c
        rw [hs1] at this
        exact this
      have hi0 := R.p.idx c .i64
      have hj0 := R.w.idx c2 .i64
      have t6 := R.p.lt
      have t7 := R.w.lt
      have t8 := R.k.2
      have few := sets_few hS.nd hS.all
      have lda := ld0 ⟨m.h, m.nx + 11⟩ rfl (by show i6 < m.nx + 11; omega)
      have R1 : Rs ⟨m.h, m.nx + 11⟩ x6 x7 i6 i7 i8 S := ⟨R.p.fr rfl (by show i6 < m.nx + 11; omega), R.w.fr rfl (by show i7 < m.nx + 11; omega), R.k.fr rfl (by show i8 < m.nx + 11; omega), R.d1, R.d2, R.d3⟩
      have ld2 := R1.w.load1 c2
      have hs2 : (S.2.map AV.str)[i]? = some (.str w) := by simp [hw]
      rw [hs2] at ld2
      have f1 := low_b hx6
      by_cases hst : stS x = true
      · rw [if_pos hst]
        have hst' : lowB x = 0 := by simpa [stS] using hst
        rw [hst'] at f1
        simp only [Int.ofNat_zero, Int.cast_ofNat_Int] at f1
        rw [r07_Reset.L0_eq]
        simp [R.p.len, c, hi0, lda, f1, hj0, ld2, rresP, -binA_and]
        done
      · rw [if_neg hst]
        have hst' : ¬ lowB x = 0 := by simpa [stS] using hst
        have st := rrs_in (gv := gv) hn v (i8 := i8) (i := i) (x := x) (w := w) hx6 k 0 i6 i7 _ x6 x7 S (by omega) R1 hx hw hS (fun m' x6' x7' i6' i7' R' => by
          obtain ⟨p', q'', e1, e2⟩ := bIn_pre (nxS rows) extL x w k 0 S
          have hS' := bIn_ok (nxS rows) extL (ok := (· < 64)) (ln := List.length) (k := k) (fun y a hy ha => stepB_lt v ha rows.length 0 0 (by omega) (by omega)) (fun w a => by simp [extL, ltr]) x w hx6 k 0 S (by omega) hS (hS.wl w (List.mem_of_getElem? hw))
          have hlen : i < (bIn (nxS rows) extL x w k 0 S).1.length := by rw [e1]; simp; omega
          exact ih (i + 1) i6' i7' m' x6' x7' _ R' hS' (by omega) (by omega))
        simp only [Int.ofNat_zero, Int.cast_ofNat_Int] at st
        rw [r07_Reset.L0_eq]
        simp [R.p.len, c, hi0, lda, f1, hst', -binA_and, show ¬ (lowB x : Int) = 0 by omega]
        exact st
    · have hx : S.1[i]? = none := List.getElem?_eq_none (by omega)
      rw [bfs, hx, r07_Reset.L0_eq]
      simp [R.p.len, c, rresP, KRS]
      done
theorem rreset_spec {nv gv : AV} {ps : List AV} {rows : List (List Int)} {good : List Bool} {k : Nat} (hn : IsRows nv ps rows) (hg : IsB gv good) (v : VB rows good k) (m : Mem) :
    denC prog ann 27 [.agg [nv, gv]] m = some (rresP (rstW rows k), m) := by
  obtain ⟨f0, f1⟩ := all_b v
  have f2 := shl_b v.n6
  have hm0 : Mp ⟨upd (upd (upd Mem.empty.h 0 (some (AObj.cells [AV.int IntKind.i64 ((pwB rows.length - 1 : Nat) : Int)]))) 1 (some (AObj.cells [AV.str []]))) 2 (some (AObj.map 0 [] [])), 3⟩ 2 (([] : List Nat).map encS) (([] : List Bool).map .bool) := ⟨⟨0, by simp⟩, by show 2 < 3; omega⟩
  obtain ⟨m1, p1, p2, p3, p4⟩ := hm0.put (keysS (· < 64)) (by simp) rfl f1 (by simp) true
  simp only [encS] at p1
  have p3 : m1.nx = 3 := p3
  have e1 : m1.h 0 = some (AObj.cells [AV.int IntKind.i64 ((pwB rows.length - 1 : Nat) : Int)]) := by rw [p4 0 (by omega)]; simp
  have e2 : m1.h 1 = some (AObj.cells [AV.str []]) := by rw [p4 1 (by omega)]; simp
  have st := rrs_out (gv := gv) hn v (i8 := 2) 65 0 0 1 m1 (.sl 0 1 0 1 1) (.sl 1 1 0 1 1) ([pwB rows.length - 1], [[]]) ⟨⟨⟨[], rfl, by simp [encS, e1]⟩, rfl, by omega⟩, ⟨⟨[], rfl, by simp [e2]⟩, rfl, by omega⟩, p2.fr rfl (by omega), by omega, by omega, by omega⟩ ⟨by simp, by simpa using f1, rfl, by simp⟩ (by simp) (by omega)
  simp only [Int.ofNat_zero, Int.cast_ofNat_Int] at st
  rw [r07_Reset.call_eq _ _ (by simp [hn.closed, hg.closed])]
  simp [hn.one, hg.one, hn.closed, hg.closed, hn.len, f2, f0, p1, p3, -binA_shl]
  simp only [KRS] at st
  rw [st]
  rfl
end Go.Proofs.Ythnpflkpjimkfaa
