/-
  THE SMALLEST FORM: the program writes it. Conditions: none.
-/
import Derived.Test.YthnpflkpjimkfaaK02
import Derived.Test.YthnpflkpjimkfaaKAmH
import Derived.Test.YthnpflkpjimkfaaK01
set_option linter.all false
namespace Go.Proofs.Ythnpflkpjimkfaa
open Go.AM
open Go.Proofs.Try (prog)
set_option linter.all false
set_option maxRecDepth 100000
set_option maxHeartbeats 8000000
def rowF (al : Nat → Nat → Bool) (rows : List (List Int)) (k : Nat) (st : List Nat) (q : Nat) : AV := .fsl false k (rowV al rows st q k)
def outR (al : Nat → Nat → Bool) (rows : List (List Int)) (k : Nat) (st : List Nat) (kk : Nat) : List AV := (st.take kk).map (rowF al rows k st)
def outG (good : List Bool) (st : List Nat) (kk : Nat) : List AV := (st.take kk).map fun q => .bool (bnth good q)
structure Ox (h : Nat → Option AObj) (o z0 : Nat) (a g : AV) (R G : List AV) (lo hi : Nat) : Prop where
  o : h o = some (.cells [a, g])
  z : h z0 = some (.cells [.nils, .nils])
  na : Nl h a R lo hi
  ng : Nl h g G lo hi
  dj : ∀ y, objId a = some y → objId g ≠ some y
def resV (al : Nat → Nat → Bool) (rows : List (List Int)) (good : List Bool) (k : Nat) (st : List Nat) : AV := .agg [.fsl false st.length (st.map (rowF al rows k st)), .fsl false st.length (st.map fun q => .bool (bnth good q))]
def ap (x y : Option Nat) : Bool := match x, y with
  | some a, some c => !(a == c)
  | _, _ => true
theorem ap_eq (s : St) (p q : Nat) : apart2 s p q = ap (objId (s.get p)) (objId (s.get q)) := by
  unfold apart2 ap
  cases objId (s.get p) <;> cases objId (s.get q) <;> rfl
theorem ap_lt {x : Option Nat} {z lo : Nat} (h : ∀ y, x = some y → lo ≤ y) (hz : z < lo) : ap x (some z) = true := by
  cases x with
  | none => rfl
  | some y =>
    have : (y == z) = false := beq_eq_false_iff_ne.2 (by have := h y rfl; omega)
    simp [ap, this]
theorem frz_142_146 (s : St) : frz1 s 3142146 = bif ap (objId (s.get 142)) (objId (s.get 146)) then some s else none := by rw [← ap_eq]; rfl
theorem frz_144 (s : St) : frz1 s 2000144 = bif nsl (s.get 144) then some s else none := rfl
theorem frz_142_12 (s : St) : frz1 s 3142012 = bif ap (objId (s.get 142)) (objId (s.get 12)) then some s else none := by rw [← ap_eq]; rfl
theorem frz_142_152 (s : St) : frz1 s 3142152 = bif ap (objId (s.get 142)) (objId (s.get 152)) then some s else none := by rw [← ap_eq]; rfl
@[simp] theorem objId_ptr (id off top : Nat) : objId (.ptr id off top) = some id := rfl
@[simp] theorem objId_sl (id es off n top : Nat) : objId (.sl id es off n top) = some id := rfl
theorem rowV_closed (al : Nat → Nat → Bool) (rows : List (List Int)) (st : List Nat) (q c : Nat) : closedL (rowV al rows st q c) = true := by
  rw [rowV]
  generalize List.range c = l
  induction l with
  | nil => rfl
  | cons a l ih => simp [closedL, AV.closed, ih]
theorem sm_o {nv gv : AV} {ps : List AV} {rows : List (List Int)} {good : List Bool} {k : Nat} (hn : IsRows nv ps rows) (hg : IsB gv good) (v : VB rows good k) {al : Nat → Nat → Bool} {D : MB} (hDl : D.length = rows.length) (hD : ∀ s t, s < rows.length → t < rows.length → mth D s t = !al s t) (hr : ∀ s, s < rows.length → al s s = true)
    {d o z0 : Nat} {ids : List Nat} {b S lo : Nat} (hdlo : d < lo) (hidlo : ∀ y ∈ ids, y < lo) (hb : b < lo) (hS : S < lo) (ho : o < lo) (hz : z0 < lo) (hbd : b ≠ d ∧ b ∉ ids) (hSd : S ≠ d ∧ S ∉ ids) (hod : o ≠ d ∧ o ∉ ids) (hzd : z0 ≠ d ∧ z0 ∉ ids) (hob : o ≠ b ∧ o ≠ S) (hzb : z0 ≠ b ∧ z0 ≠ S) (hoz : o ≠ z0) :
    ∀ (f kk : Nat) (h : Nat → Option AObj) (nx0 : Nat) (st : List Nat) (a g : AV), Bt h d ids D rows.length 0 → Sx h b S st → st.Nodup → (∀ x ∈ st, x < rows.length) → kk ≤ st.length → rows.length < f + kk → (∀ s ∈ st.take kk, ∀ a, a < k → st.any (al (nx rows s a)) = true) → lo ≤ nx0 → Ox h o z0 a g (outR al rows k st kk) (outG good st kk) lo nx0 → 0 < st.length →
    brand_smallest.L12 (.fptr [nv, gv]) (.ptr z0 0 2) (.ptr o 0 2) (.ptr b 0 1) (.fn 80 [] [.ptr b 0 1, .sptr [.sl d 1 0 rows.length rows.length]]) (.int .i64 kk) ⟨h, nx0⟩ K12 = some (resV al rows good k (bldN al (nx rows) k f kk st), Mem.empty) := by
  intro f
  have n6 := v.n6
  have k3 := v.k3
  induction f with
  | zero =>
    intro kk h nx0 st a g B X hnd hst hkk hf hcl hlo O hpos
    have := nodup_sub hnd (L := List.range rows.length) fun x hx => List.mem_range.2 (hst x hx)
    simp at this
    omega
  | succ f ih =>
    intro kk h nx0 st a g B X hnd hst hkk hf hcl hlo O hpos
    have f6 := few6 n6 hnd hst
    by_cases c : kk < st.length
    · have hx := List.getElem?_eq_getElem c
      generalize st[kk] = q at hx
      have hq : q < rows.length := hst q (List.mem_of_getElem? hx)
      rw [bldN, hx]
      simp only []
      have hl2 : ∀ n' : Nat, loadA false 1 ⟨h, n'⟩ (.ptr S kk st.length) = some (.int .i64 (q : Int)) := fun n' => by simp [X.hs, hx, encS]
      have iw1 := hn.row q hq
      have b1 := v.rl q hq
      rw [brand_smallest.L12_eq]
      simp [X.hb, c, hl2, hn.idx hq, hn.head hq, iw1.len, b1]
      have st2 := sm_r (gv := gv) (x2 := .ptr z0 0 2) (x11 := .ptr o 0 2) (x14 := .int .i64 kk) hn v hDl hD hr (d := d) (ids := ids) (b := b) (S := S) (q := q) (lo := nx0 + 10) hq (by omega) (fun y hy => by have := hidlo y hy; omega) (by omega) (by omega) hbd hSd (r := (resV al rows good k (bldN al (nx rows) k f (kk + 1) (addsN al (nx rows) q k 0 st)), Mem.empty)) k 0 h (nx0 + 10) st .nils (by omega) B X hnd hst (by omega) (.inl ⟨rfl, rfl⟩) (by omega) (by omega) (fun h' nx' w' B' X' hnd' hst' hany' hw' hnx' hwn' hfr => by
        obtain ⟨R, rfl, w1, w2, w3⟩ := hw'.sl hwn'
        obtain ⟨l, hl⟩ := addsN_pre (al := al) (nxt := nx rows) q k 0 st
        generalize est : addsN al (nx rows) q k 0 st = st' at *
        have hkk' : kk < st'.length := by rw [hl]; simp; omega
        have hx' : st'[kk]? = some q := by rw [hl, List.getElem?_append_left c]; exact hx
        have htk : st'.take kk = st.take kk := by rw [hl, List.take_append_of_le_length (by omega)]
        have htk1 : st'.take (kk + 1) = st.take kk ++ [q] := by rw [List.take_add_one, hx', htk]; rfl
        have f6' := few6 n6 hnd' hst'
        have eR : outR al rows k st kk ++ [rowF al rows k st' q] = outR al rows k st' (kk + 1) := by
          rw [outR, outR, htk1, List.map_append]
          congr 1
          refine List.map_congr_left fun s hs => ?_
          rw [rowF, rowF, hl, rowV_pre (hcl s hs)]
        have eG : outG good st kk ++ [.bool (bnth good q)] = outG good st' (kk + 1) := by
          rw [outG, outG, htk1, List.map_append]; rfl
        have oa := fun y e => (O.na.oid (y := y) e)
        have og := fun y e => (O.ng.oid (y := y) e)
        have rl : (rowV al rows st' q k).length = k := by simp [rowV]
        have na1 : Nl (upd h' R none) a (outR al rows k st kk) lo nx0 := O.na.fr (fun y y1 y2 _ => by rw [updNe (by omega), hfr y (by omega) (by omega) (by omega)]) (Nat.le_refl _)
        have lR : (outR al rows k st kk).length ≤ 6 := by simp [outR]; omega
        have lG : (outG good st kk).length ≤ 6 := by simp [outG]; omega
        obtain ⟨v1, h2, n2, g1, g2, g3, g4, g5, g6, g7⟩ := na1.app (nx := nx' + 4) (by' := 24) (by omega) (by omega) (by simp; omega) (rowF al rows k st' q)
        have hv1 : ∀ y, objId v1 = some y → lo ≤ y ∧ (y < nx0 ∨ y = nx' + 4) := fun y e => by
          rcases g5 y e with q | q
          · have := oa y q; omega
          · omega
        have ng1 : Nl h2 g (outG good st kk) lo nx0 := O.ng.fr (fun y y1 y2 ye => by
          rw [g6 y (fun e => by
            rcases g5 y e with q | q
            · exact O.dj y q ye
            · omega), updNe (by omega), hfr y (by omega) (by omega) (by omega)]) (Nat.le_refl _)
        obtain ⟨v2, h3, n3, u1, u2, u3, u4, u5, u6, u7⟩ := ng1.app (nx := nx' + 16) (by' := 1) (by omega) (by omega) (by simp; omega) (.bool (bnth good q))
        have hv2 : ∀ y, objId v2 = some y → lo ≤ y ∧ (objId g = some y ∨ y = nx' + 16) := fun y e => by
          rcases u5 y e with q | q
          · have := og y q; exact ⟨this.1, .inl q⟩
          · exact ⟨by omega, .inr q⟩
        have low : ∀ y, y < lo → h3 y = h' y := fun y hy => by
          rw [u6 y (fun e => by have := hv2 y e; omega), g6 y (fun e => by have := hv1 y e; omega), updNe (by omega)]
        have lo2 : ∀ y, y < lo → h2 y = h' y := fun y hy => by
          rw [g6 y (fun e => by have := hv1 y e; omega), updNe (by omega)]
        have ho' : h' o = some (.cells [a, g]) := by rw [hfr o (by omega) hob.1 hob.2]; exact O.o
        have ho1 : (upd h' R none) o = some (.cells [a, g]) := by rw [updNe (by omega)]; exact ho'
        have ho2 : h2 o = some (.cells [a, g]) := by rw [lo2 o ho]; exact ho'
        have ho3 : h3 o = some (.cells [a, g]) := by rw [low o ho]; exact ho'
        have hb2 : h2 b = some (.cells [.sl S 1 0 st'.length st'.length]) := by rw [lo2 b hb]; exact X'.hb
        have hS2 : h2 S = some (.cells (st'.map encS)) := by rw [lo2 S hS]; exact X'.hs
        have a1 := ap_lt (z := o) (fun y e => (oa y e).1) ho
        have a2 := ap_lt (z := b) (fun y e => (oa y e).1) hb
        have a3 := ap_lt (z := S) (fun y e => (oa y e).1) hS
        have bq := bls_head (bs := good) (i := q) (by rw [v.gl]; exact hq)
        have hwk : IntKind.wrap .i64 ((kk : Int) + 1) = (kk : Int) + 1 := wrap_id (by omega) (by omega)
        have fin4 : ∀ y, y < lo → y ≠ o → (upd h3 o (some (.cells [v1, v2]))) y = h' y := fun y y1 y2 => by rw [updNe y2, low y y1]
        have st3 := ih (kk + 1) (upd h3 o (some (.cells [v1, v2]))) (nx' + 21) st' v1 v2
          (B'.fr (fin4 d hdlo hod.1.symm) (fun y hy => fin4 y (hidlo y hy) (fun e => hod.2 (e ▸ hy))))
          ⟨by rw [fin4 b hb hob.1.symm]; exact X'.hb, by rw [fin4 S hS hob.2.symm]; exact X'.hs, X'.ne⟩ hnd' hst' (by omega) (by omega)
          (by
            rw [htk1]
            intro s hs a ha
            rcases List.mem_append.1 hs with hs | hs
            · rw [hl]; exact any_app (hcl s hs a ha)
            · simp at hs; subst hs; exact hany' a ha)
          (by omega)
          ⟨by simp, by rw [fin4 z0 hz hoz.symm, hfr z0 (by omega) hzb.1 hzb.2]; exact O.z,
            by
              rw [← eR]
              exact g2.fr (fun y y1 y2 ye => by
                rw [updNe (by omega), u6 y (fun e => by
                  rcases (hv2 y e).2 with q | q
                  · rcases g5 y ye with w | w
                    · exact O.dj y w q
                    · have := og y q; omega
                  · have := (hv1 y ye).2; omega)]) (by omega),
            by
              rw [← eG]
              exact u2.fr (fun y y1 y2 ye => by rw [updNe (by omega)]) (by omega),
            fun y e1 e2 => by
              rcases (hv2 y e2).2 with q | q
              · rcases g5 y e1 with w | w
                · exact O.dj y w q
                · have := og y q; omega
              · have := (hv1 y e1).2; omega⟩ (by omega)
        simp only [Int.natCast_add, Int.cast_ofNat_Int] at st3
        have hoR : (o == R) = false := beq_eq_false_iff_ne.2 (by omega)
        have rtk : (rowV al rows st' q k).take k = rowV al rows st' q k := List.take_of_length_le (by omega)
        have hxe := (List.getElem?_eq_some_iff.1 hx').2
        have rfo : (rowF al rows k st' q).one = true := rfl
        simp only [rowF] at g1 rfo
        rw [brand_smallest.L14_eq]
        simp [K14, w1, rowV_closed, rl, rtk, hoR, ho', ho1, ho2, ho3, g1, O.na.one, O.ng.one, hb2, hS2, hkk', hxe, u1, (show v1.one = true from g2.one), (show v2.one = true from u2.one), frz_142_146, frz_144, frz_142_12, frz_142_152, nsl, a1, a2, a3, hwk, st3, encS, hg.idx (i := q) (by rw [v.gl]; exact hq), bq, frzL]
        done)
      simp only [Int.ofNat_zero, Int.cast_ofNat_Int, K14] at st2
      exact st2
    · have ekk : kk = st.length := by omega
      subst ekk
      have hx : st[st.length]? = none := List.getElem?_eq_none (by omega)
      rw [bldN, hx]
      simp only []
      rw [brand_smallest.L12_eq]
      simp [X.hb, O.o, O.z, O.na.one, O.ng.one, K12]
      have e1 : st.take st.length = st := List.take_length
      have na : Nl (upd h z0 (some (AObj.cells [a, g]))) a (outR al rows k st st.length) lo nx0 := O.na.fr (fun y y1 _ _ => updNe (by omega)) (Nat.le_refl _)
      have ng : Nl (upd h z0 (some (AObj.cells [a, g]))) g (outG good st st.length) lo nx0 := O.ng.fr (fun y y1 _ _ => updNe (by omega)) (Nat.le_refl _)
      have hne : st ≠ [] := by intro e; rw [e] at hpos; simp at hpos
      have da := na.deep 4 (fun x hx => by
        simp only [outR, List.mem_map] at hx
        obtain ⟨q, _, rfl⟩ := hx
        simp [AM.deep, rowF, rowV_closed]) (na.nn (by simp [outR, hne]))
      have dg := ng.deep 4 (fun x hx => by
        simp only [outG, List.mem_map] at hx
        obtain ⟨q, _, rfl⟩ := hx
        simp [AM.deep]) (ng.nn (by simp [outG, hne]))
      simp [da, dg, resV, outR, outG]
      done
end Go.Proofs.Ythnpflkpjimkfaa

/-
  THE SMALLEST FORM: what the program returns. Conditions: none.
-/
namespace Go.Proofs.Ythnpflkpjimkfaa
open Go.AM
open Go.Proofs.Try (prog)
set_option linter.all false
set_option maxRecDepth 100000
set_option maxHeartbeats 8000000
theorem smallest_spec {nv gv : AV} {ps : List AV} {rows : List (List Int)} {good : List Bool} {k : Nat} (hn : IsRows nv ps rows) (hg : IsB gv good) (v : VB rows good k) (m : Mem) :
    denC prog ann 56 [.agg [nv, gv]] m = some (resV (alB rows good k) rows good k (bldN (alB rows good k) (nx rows) k (rows.length + 1) 0 [0]), m) := by
  have n1 := v.n1
  have n6 := v.n6
  have hgl := v.gl
  have nn : rows.length * rows.length ≤ 36 := Nat.mul_le_mul n6 n6
  obtain ⟨F1, F2⟩ := fixD_end v (f := 37) (by omega)
  rw [brand_smallest.call_eq _ _ (by simp [hn.closed, hg.closed])]
  have h0 : ∀ h : Nat → Option AObj, h 1 = some (.cells (List.replicate rows.length .nils)) → h 0 = some (.cells [.nils, .nils]) → brand_smallest.L0 (.fptr [nv, gv]) (.ptr 0 0 2) (.int .i64 rows.length) (.sptr [.sl 1 1 0 rows.length rows.length]) (.int .i64 rows.length) (.int .i64 0) ⟨h, 3⟩ K0 = some (resV (alB rows good k) rows good k (bldN (alB rows good k) (nx rows) k (rows.length + 1) 0 [0]), Mem.empty) := by
    intro h e1 e0
    have B0 : Bt h 1 [] ((List.range 0).map fun i => (List.range rows.length).map fun j => !(bnth good i == bnth good j)) rows.length rows.length := ⟨by simp [e1], rfl, by simp, by simp, by simp, by simp⟩
    refine sm_d (gv := gv) (nv := nv) (x2 := .ptr 0 0 2) hg hgl n6 rows.length 0 h 3 [] (by omega) B0 (by omega) (by simp) ?_
    intro h' nx' ids B hd hids hnx hfr
    refine sm_w (gv := gv) (x2 := .ptr 0 0 2) hn v 37 h' nx' _ D0_mkd (by omega) B ?_
    intro h2 nx2 B2 hnx2 hfr2
    have hz : h2 0 = some (.cells [.nils, .nils]) := by
      have h00 : h' 0 = some (.cells [.nils, .nils]) := by rw [hfr 0 (by omega) (by omega) (by simp), e0]
      rw [hfr2 0 (fun e => by
        obtain ⟨i, hi, e⟩ := List.getElem_of_mem e
        have h3 : i < (D0 good rows.length).length := by rw [← B.l]; exact hi
        have := B.r i h3
        have e' : rid ids i = 0 := by simp [rid, List.getD_eq_getElem?_getD, hi, e]
        rw [e', h00] at this
        have hl := B.rl i h3
        have q := Option.some.inj this
        injection q with q
        have : (bls (brw (D0 good rows.length) i))[0]? = some .nils := by rw [← q]; rfl
        simp [bls] at this), h00]
    have hids2 : ∀ y ∈ ids, y < nx2 := fun y hy => by have := hids y hy; omega
    have fr : ∀ y, y < nx2 → (upd (upd (upd h2 nx2 (some (AObj.cells [AV.nils, AV.nils]))) (nx2 + 1) (some (AObj.cells [AV.int IntKind.i64 0]))) (nx2 + 1 + 1) (some (AObj.cells [AV.sl (nx2 + 1) 1 0 1 1]))) y = h2 y := fun y hy => by rw [updNe (by omega), updNe (by omega), updNe (by omega)]
    have st := sm_o (gv := gv) hn hg v (al := alB rows good k) (D := fixD rows k rows.length 37 (D0 good rows.length)) F1.l F2 (fun s _ => alB_refl s) (d := 1) (o := nx2) (z0 := 0) (ids := ids) (b := nx2 + 1 + 1) (S := nx2 + 1) (lo := nx2 + 3) (by omega) (fun y hy => by have := hids2 y hy; omega) (by omega) (by omega) (by omega) (by omega) ⟨by omega, fun e => by have := hids2 _ e; omega⟩ ⟨by omega, fun e => by have := hids2 _ e; omega⟩ ⟨by omega, fun e => by have := hids2 _ e; omega⟩ ⟨by omega, fun e => by
        obtain ⟨i, hi, e⟩ := List.getElem_of_mem e
        have h3 : i < (fixD rows k rows.length 37 (D0 good rows.length)).length := by rw [← B2.l]; exact hi
        have := B2.r i h3
        have e' : rid ids i = 0 := by simp [rid, List.getD_eq_getElem?_getD, hi, e]
        rw [e', hz] at this
        have hl := B2.rl i h3
        have q := Option.some.inj this
        injection q with q
        have : (bls (brw (fixD rows k rows.length 37 (D0 good rows.length)) i))[0]? = some .nils := by rw [← q]; rfl
        simp [bls] at this⟩ (by omega) (by omega) (by omega) (rows.length + 1) 0 _ (nx2 + 1 + 1 + 1) [0] .nils .nils (B2.fr (fr 1 (by omega)) (fun y hy => fr y (hids2 y hy))) ⟨by simp, by rw [updNe (by omega)]; simp [encS], by omega⟩ (by simp) (by intro x hx; simp at hx; omega) (by simp) (by omega) (by simp) (by omega) ⟨by rw [updNe (by omega), updNe (by omega)]; simp, by rw [fr 0 (by omega)]; exact hz, .nil, .nil, by simp [objId]⟩ (by simp)
    simp only [Int.ofNat_zero, Int.cast_ofNat_Int, K12] at st
    rw [brand_smallest.L4_eq]
    simp [K4]
    exact st
  have h1 := h0 (upd (upd (upd (upd Mem.empty.h 0 (some (AObj.cells [AV.nils, AV.nils]))) 1 (some (AObj.cells (List.replicate rows.length AV.nils)))) 2 (some (AObj.cells [AV.sl 1 1 0 rows.length rows.length]))) 2 none) (by simp) (by simp)
  simp [K0, K4] at h1
  simp [hn.one, hg.one, hn.closed, hg.closed, hn.len, show rows.length ≤ 4611686018427387904 by omega, show rows.length * 24 ≤ 70368744177664 by omega]
  rw [h1]
  rfl
end Go.Proofs.Ythnpflkpjimkfaa

/-
  THE SMALLEST FORM: what the specification returns. Conditions: none.
-/
namespace Go.Proofs.Ythnpflkpjimkfaa
open Go.AM
open Go.Proofs.Try (prog)
set_option linter.all false
set_option maxRecDepth 100000
set_option maxHeartbeats 8000000
end Go.Proofs.Ythnpflkpjimkfaa

/-
  THE SAME BRAND: the test answers yes for the same; the smallest form is a brand. Conditions: none.
-/
namespace Go.Proofs.Ythnpflkpjimkfaa
open Go.AM
open Go.Proofs.Try (prog)
set_option linter.all false
set_option maxRecDepth 100000
set_option maxHeartbeats 8000000
theorem sb_in {nv gv nv' gv' : AV} {ps ps' : List AV} {rows : List (List Int)} (hn : IsRows nv ps rows) (hn' : IsRows nv' ps' rows) {s : Nat} (hs : s < rows.length) (hl : (cth rows s).length ≤ 1000) {K : List Item} : ∀ (c j : Nat) (m : Mem), j + c = (cth rows s).length → ∃ m', r07_SameBrand.L2 (.fptr [nv, gv]) (.fptr [nv', gv']) (.int .i64 s) (.int .i64 j) m K = r07_SameBrand.L2 (.fptr [nv, gv]) (.fptr [nv', gv']) (.int .i64 s) (.int .i64 (cth rows s).length) m' K := by
  intro c
  have iw1 := hn.row s hs
  have iw2 := hn'.row s hs
  induction c with
  | zero =>
    intro j m h1
    have e : j = (cth rows s).length := by omega
    exact ⟨m, by rw [e]⟩
  | succ c ih =>
    intro j m h1
    have hj : j < (cth rows s).length := by omega
    have hwj : IntKind.wrap .i64 ((j : Int) + 1) = (j : Int) + 1 := wrap_id (by omega) (by omega)
    have d1 := iw1.idx hj .i64
    have d2 := iw2.idx hj .i64
    have e1 := ints_head (l := cth rows s) hj
    obtain ⟨m', hm⟩ := ih (j + 1) ⟨m.h, m.nx + 17⟩ (by omega)
    refine ⟨m', ?_⟩
    rw [← hm]
    simp only [Int.natCast_add, Int.cast_ofNat_Int]
    rw [r07_SameBrand.L2_eq]
    simp [hn.idx hs, hn.head hs, hn'.idx hs, hn'.head hs, iw1.len, iw2.len, hj, d1, d2, e1, hwj]
    done
theorem sb_good {nv gv nv' gv' : AV} {good : List Bool} (hg : IsB gv good) (hg' : IsB gv' good) (hl : good.length ≤ 1000) : ∀ (c j : Nat) (m : Mem), j + c = good.length → r07_SameBrand.L4 (.fptr [nv, gv]) (.fptr [nv', gv']) (.int .i64 j) m [.code r07_SameBrand.r18, .code .ret] = some (.bool true, Mem.empty) := by
  intro c
  induction c with
  | zero =>
    intro j m h1
    have e : j = good.length := by omega
    subst e
    rw [r07_SameBrand.L4_eq]
    simp [hg.len]
    done
  | succ c ih =>
    intro j m h1
    have hj : j < good.length := by omega
    have hwj : IntKind.wrap .i64 ((j : Int) + 1) = (j : Int) + 1 := wrap_id (by omega) (by omega)
    have b1 := bls_head (bs := good) hj
    have st := fun m => ih (j + 1) m (by omega)
    simp only [Int.natCast_add, Int.cast_ofNat_Int] at st
    rw [r07_SameBrand.L4_eq]
    simp [hg.len, hj, hg.idx hj, hg'.idx hj, b1, hwj, st]
    done
theorem sb_rows {nv gv nv' gv' : AV} {ps ps' : List AV} {rows : List (List Int)} {good : List Bool} (hn : IsRows nv ps rows) (hn' : IsRows nv' ps' rows) (hg : IsB gv good) (hg' : IsB gv' good) (hl : rows.length ≤ 1000) (hr : ∀ i, i < rows.length → (cth rows i).length ≤ 1000) (hgl : good.length ≤ 1000) : ∀ (c j : Nat) (m : Mem), j + c = rows.length → r07_SameBrand.L0 (.fptr [nv, gv]) (.fptr [nv', gv']) (.int .i64 j) m [.code r07_SameBrand.r13, .code r07_SameBrand.k4, .code r07_SameBrand.r18, .code .ret] = some (.bool true, Mem.empty) := by
  intro c
  induction c with
  | zero =>
    intro j m h1
    have e : j = rows.length := by omega
    subst e
    have st := fun m => sb_good (nv := nv) (nv' := nv') hg hg' hgl good.length 0 m (by omega)
    simp only [Int.ofNat_zero, Int.cast_ofNat_Int] at st
    rw [r07_SameBrand.L0_eq]
    simp [hn.len, st]
    done
  | succ c ih =>
    intro j m h1
    have hj : j < rows.length := by omega
    have hwj : IntKind.wrap .i64 ((j : Int) + 1) = (j : Int) + 1 := wrap_id (by omega) (by omega)
    have iw1 := hn.row j hj
    have iw2 := hn'.row j hj
    obtain ⟨m', hm⟩ := sb_in (gv := gv) (gv' := gv') hn hn' hj (hr j hj) (K := .inBlock 1 :: .code r07_SameBrand.r5 :: .inLoop r07_SameBrand.l0 :: .inBlock 0 :: [.code r07_SameBrand.r13, .code r07_SameBrand.k4, .code r07_SameBrand.r18, .code .ret]) (cth rows j).length 0 ⟨m.h, m.nx + 13⟩ (by omega)
    simp only [Int.ofNat_zero, Int.cast_ofNat_Int] at hm
    have st := fun m => ih (j + 1) m (by omega)
    simp only [Int.natCast_add, Int.cast_ofNat_Int] at st
    rw [r07_SameBrand.L0_eq]
    simp [hn.len, hj, hn.idx hj, hn.head hj, hn'.idx hj, hn'.head hj, iw1.len, iw2.len, hm]
    rw [r07_SameBrand.L2_eq]
    simp [hn.idx hj, hn.head hj, iw1.len, hwj, st]
    done
theorem samebrand_refl {nv gv nv' gv' : AV} {ps ps' : List AV} {rows : List (List Int)} {good : List Bool} (hn : IsRows nv ps rows) (hn' : IsRows nv' ps' rows) (hg : IsB gv good) (hg' : IsB gv' good) (hl : rows.length ≤ 1000) (hr : ∀ i, i < rows.length → (cth rows i).length ≤ 1000) (hgl : good.length ≤ 1000) (m : Mem) :
    denC prog ann 28 [.agg [nv, gv], .agg [nv', gv']] m = some (.bool true, m) := by
  have st := fun m => sb_rows hn hn' hg hg' hl hr hgl rows.length 0 m (by omega)
  simp only [Int.ofNat_zero, Int.cast_ofNat_Int] at st
  rw [r07_SameBrand.call_eq _ _ _ (by simp [hn.closed, hg.closed, hn'.closed, hg'.closed])]
  simp [hn.one, hg.one, hn.closed, hg.closed, hn'.one, hg'.one, hn'.closed, hg'.closed, hn.len, hn'.len, hg.len, hg'.len, st]
  done
noncomputable def rowsM (rows : List (List Int)) (good : List Bool) (k : Nat) : List (List Int) := (repL rows good k).map fun q => (List.range k).map fun a => ((idxA (alB rows good k) (repL rows good k) (nx rows q a) : Nat) : Int)
noncomputable def goodM (rows : List (List Int)) (good : List Bool) (k : Nat) : List Bool := (repL rows good k).map (bnth good)
noncomputable def psM (rows : List (List Int)) (good : List Bool) (k : Nat) : List AV := (repL rows good k).map (rowF (alB rows good k) rows k (repL rows good k))
noncomputable def nvM (rows : List (List Int)) (good : List Bool) (k : Nat) : AV := .fsl false (repL rows good k).length (psM rows good k)
noncomputable def gvM (rows : List (List Int)) (good : List Bool) (k : Nat) : AV := .fsl false (repL rows good k).length (bls (goodM rows good k))
theorem resV_eq (rows : List (List Int)) (good : List Bool) (k : Nat) : resV (alB rows good k) rows good k (repL rows good k) = .agg [nvM rows good k, gvM rows good k] := by
  simp [resV, nvM, gvM, psM, goodM, bls]
theorem isB_M (rows : List (List Int)) (good : List Bool) (k : Nat) : IsB (gvM rows good k) (goodM rows good k) := .inr ⟨false, by simp [gvM, goodM]⟩
theorem isRows_M (rows : List (List Int)) (good : List Bool) (k : Nat) : IsRows (nvM rows good k) (psM rows good k) (rowsM rows good k) := by
  refine ⟨by simp [psM, rowsM], fun i hi => ?_, .inr ⟨false, by simp [nvM, rowsM]⟩⟩
  have hi' : i < (repL rows good k).length := by simpa [rowsM] using hi
  have e1 : pth (psM rows good k) i = rowF (alB rows good k) rows k (repL rows good k) (repL rows good k)[i] := by simp [pth, psM, hi', List.getD_eq_getElem?_getD]
  have e2 : cth (rowsM rows good k) i = (List.range k).map fun a => ((idxA (alB rows good k) (repL rows good k) (nx rows (repL rows good k)[i] a) : Nat) : Int) := by simp [cth, rowsM, hi', List.getD_eq_getElem?_getD]
  rw [e1, e2]
  exact .inr ⟨false, by simp [rowF, rowV, ints]⟩
theorem rowsM_len (rows : List (List Int)) (good : List Bool) (k : Nat) : (rowsM rows good k).length = (repL rows good k).length := by simp [rowsM]
theorem repL_few {rows : List (List Int)} {good : List Bool} {k : Nat} (v : VB rows good k) : (repL rows good k).length ≤ rows.length ∧ 0 < (repL rows good k).length ∧ 0 ∈ (rchS rows k).1 := by
  obtain ⟨R1, R2⟩ := rch_ok v
  have hle : (repL rows good k).length ≤ rows.length := by
    have := ded_len (al := alB rows good k) (rchS rows k).1 []
    have e : (repL rows good k).length ≤ 0 + (rchS rows k).1.length := this
    have := nodup_sub R1.nd (L := List.range rows.length) fun x hx => List.mem_range.2 (R1.all x hx)
    simp at this
    omega
  have h0 : 0 ∈ (rchS rows k).1 := by
    have hp : ∀ (f i : Nat) (S : List Nat × List (List UInt8)), 0 ∈ S.1 → 0 ∈ (bfsA (nx rows) extL k f i S).1 := by
      intro f
      induction f with
      | zero => intro i S h; exact h
      | succ f ih =>
        intro i S h
        rw [bfsA]
        split
        · rename_i x w _ _
          obtain ⟨p, _, e1, _⟩ := bIn_pre (nx rows) extL x w k 0 S
          exact ih _ _ (by rw [e1]; exact List.mem_append_left _ h)
        · exact h
    exact hp _ _ _ (by simp)
  have := ded_any (lik_alB v) (rchS rows k).1 R1.all 0 h0
  obtain ⟨u, hu, _⟩ := List.any_eq_true.1 this
  exact ⟨hle, List.length_pos_of_mem hu, h0⟩
theorem VB_M {rows : List (List Int)} {good : List Bool} {k : Nat} (v : VB rows good k) : VB (rowsM rows good k) (goodM rows good k) k := by
  obtain ⟨h1, h2, h3⟩ := repL_few v
  obtain ⟨R1, R2⟩ := rch_ok v
  have n6 := v.n6
  have row : ∀ i (hi : i < (repL rows good k).length), cth (rowsM rows good k) i = (List.range k).map fun a => ((idxA (alB rows good k) (repL rows good k) (nx rows (repL rows good k)[i] a) : Nat) : Int) := fun i hi => by simp [cth, rowsM, hi, List.getD_eq_getElem?_getD]
  refine ⟨by rw [rowsM_len]; omega, by rw [rowsM_len]; omega, by simp [goodM, rowsM], v.k1, v.k3, fun i hi => ?_, fun i j hi hj => ?_⟩
  · rw [rowsM_len] at hi
    rw [row i hi]; simp
  · rw [rowsM_len] at hi
    rw [row i hi, rowsM_len]
    have hm : (repL rows good k)[i] ∈ (rchS rows k).1 := ded_mem (List.getElem_mem hi)
    have := idxA_lt (ded_any (lik_alB v) (rchS rows k).1 R1.all _ (R2 _ hm j hj))
    have e : nth ((List.range k).map fun a => ((idxA (alB rows good k) (repL rows good k) (nx rows (repL rows good k)[i] a) : Nat) : Int)) j = ((idxA (alB rows good k) (repL rows good k) (nx rows (repL rows good k)[i] j) : Nat) : Int) := by simp [nth, hj, List.getD_eq_getElem?_getD]
    rw [e]
    have this : idxA (alB rows good k) (repL rows good k) (nx rows (repL rows good k)[i] j) < (repL rows good k).length := this
    omega
end Go.Proofs.Ythnpflkpjimkfaa

/-
  BODIES OF FUNCTIONS OF THE PROGRAM AS SMALL OPERATIONS (written by gen.py; checked by the kernel against the program). Conditions: none.
-/
namespace Go.Proofs.Ythnpflkpjimkfaa
open Go.AM
open Go.Proofs.Try (prog)
set_option maxRecDepth 100000
set_option linter.all false
end Go.Proofs.Ythnpflkpjimkfaa

/-
  WHAT WORDS DO: moves of states, as keys. Conditions: none.
-/
namespace Go.Proofs.Ythnpflkpjimkfaa
open Go.AM
open Go.Proofs.Try (prog)
set_option linter.all false
set_option maxRecDepth 100000
set_option maxHeartbeats 8000000
theorem IsRows.deep {v : AV} {ps : List AV} {rows : List (List Int)} (h : IsRows v ps rows) (hp : Nat → Option AObj) (d : Nat) : AM.deep hp (d + 1) v = some v := by rcases h.val with ⟨rfl, _⟩ | ⟨_, rfl⟩ <;> rfl
def mvF (n : Nat) (f : Nat → Nat) (c : Nat) : List Nat := (List.range 6).map fun s => if s < c then f s else 0
def mv6 (rows : List (List Int)) (w : List UInt8) : List Nat := mvF rows.length (fun s => goL rows w s) rows.length
@[simp] theorem mv6_len (rows : List (List Int)) (w : List UInt8) : (mv6 rows w).length = 6 := by simp [mv6, mvF]
def nxM (rows : List (List Int)) (t : List Nat) (a : Nat) : List Nat := mvF rows.length (fun s => nx rows (t.getD s 0) a) rows.length
def encM (t : List Nat) : AV := .agg (t.map fun x => .int .i64 (x : Nat))
@[simp] theorem mvF_len (n : Nat) (f : Nat → Nat) (c : Nat) : (mvF n f c).length = 6 := by simp [mvF]
theorem mvF_at {n : Nat} {f : Nat → Nat} {c s : Nat} (h : s < 6) (hc : s < c) : (mvF n f c).getD s 0 = f s := by
  simp [mvF, List.getD_eq_getElem?_getD, h, hc]
theorem goL_snoc (rows : List (List Int)) (c : UInt8) : ∀ (w : List UInt8) (s : Nat), goL rows (w ++ [c]) s = nx rows (goL rows w s) (c.toNat - 97)
  | [], s => rfl
  | b :: w, s => by rw [List.cons_append, goL, goL_snoc rows c w, goL]
theorem ltr_sub {a : Nat} (h : a < 3) : (UInt8.ofNat (97 + a)).toNat - 97 = a := by
  have : a = 0 ∨ a = 1 ∨ a = 2 := by omega
  rcases this with rfl | rfl | rfl <;> rfl
theorem goL_ltr (rows : List (List Int)) (w : List UInt8) {a : Nat} (h : a < 3) (s : Nat) : goL rows (w ++ ltr a) s = nx rows (goL rows w s) a := by rw [ltr, goL_snoc, ltr_sub h]
theorem mv6_ltr (rows : List (List Int)) (n6 : rows.length ≤ 6) (w : List UInt8) {a : Nat} (h : a < 3) : mv6 rows (extL w a) = nxM rows (mv6 rows w) a := by
  rw [mv6, nxM, mvF, mvF]
  refine List.map_congr_left fun s hs => ?_
  have hs6 : s < 6 := by simpa using hs
  by_cases q : s < rows.length
  · rw [if_pos q, if_pos q, extL, goL_ltr rows w h, mv6, mvF_at hs6 q]
  · rw [if_neg q, if_neg q]
end Go.Proofs.Ythnpflkpjimkfaa

/-
  ALL ELEMENTS OF A MONOID: the law of the search, and the program's memory. Conditions: none.
-/
namespace Go.Proofs.Ythnpflkpjimkfaa
open Go.AM
open Go.Proofs.Try (prog)
set_option linter.all false
set_option maxRecDepth 100000
set_option maxHeartbeats 8000000
def okW (k : Nat) (w : List UInt8) : Prop := ∀ c ∈ w, 97 ≤ c.toNat ∧ c.toNat - 97 < k
theorem letF_iff (k : Nat) (s : List UInt8) : letF k s s.length 0 = true ↔ okW k s := by
  have hb : ∀ i (h : i < s.length), byt s i = s[i].toNat := fun i h => by simp [byt, h]
  simp only [letF, List.all_eq_true, List.mem_range'_1, letB, Bool.and_eq_true, decide_eq_true_eq, okW]
  constructor
  · intro h c hc
    obtain ⟨i, hi, rfl⟩ := List.getElem_of_mem hc
    have := h i ⟨by omega, by omega⟩
    rwa [hb i hi] at this
  · intro h i hi
    have hi' : i < s.length := by omega
    rw [hb i hi']
    exact h _ (List.getElem_mem hi')
theorem okW_ext {k a : Nat} {w : List UInt8} (h : okW k w) (ha : a < k) (hk : k ≤ 3) : okW k (extL w a) := by
  intro c hc
  rcases List.mem_append.1 hc with hc | hc
  · exact h c hc
  · simp [ltr] at hc
    subst hc
    have : a = 0 ∨ a = 1 ∨ a = 2 := by omega
    rcases this with rfl | rfl | rfl <;> exact ⟨by decide, by simpa using ha⟩
theorem okW_nil (k : Nat) : okW k [] := by simp [okW]
theorem okW_app {k : Nat} {u w : List UInt8} (h : okW k u) (g : okW k w) : okW k (u ++ w) := fun c hc => by
  rcases List.mem_append.1 hc with hc | hc
  · exact h c hc
  · exact g c hc
abbrev SM := List (List Nat) × List (List UInt8)
structure MOk (rows : List (List Int)) (k : Nat) (S : SM) : Prop where
  nd : S.1.Nodup
  eq : S.1 = S.2.map (mv6 rows)
  ok : ∀ w ∈ S.2, okW k w ∧ w.length ≤ S.2.length
  le : S.1.length ≤ 400
section
variable {rows : List (List Int)} {k : Nat} {S : SM}
theorem MOk.len (h : MOk rows k S) : S.1.length = S.2.length := by rw [h.eq]; simp
theorem MOk.at (h : MOk rows k S) {i : Nat} {x : List Nat} {w : List UInt8} (h1 : S.1[i]? = some x) (h2 : S.2[i]? = some w) : x = mv6 rows w := by
  rw [h.eq, List.getElem?_map, h2] at h1
  exact (Option.some.inj h1).symm
theorem MOk.add (h : MOk rows k S) (n6 : rows.length ≤ 6) (k3 : k ≤ 3) {w : List UInt8} {a : Nat} (hw : w ∈ S.2) (ha : a < k) (hn : nxM rows (mv6 rows w) a ∉ S.1) (hl : S.1.length ≠ 400) : MOk rows k (S.1 ++ [nxM rows (mv6 rows w) a], S.2 ++ [extL w a]) := by
  have hle := h.le
  have hlen := h.len
  refine ⟨?_, ?_, ?_, ?_⟩
  · rw [List.nodup_append]
    refine ⟨h.nd, by simp, ?_⟩
    intro x hx y hy
    simp at hy
    subst hy
    exact fun e => hn (e ▸ hx)
  · simp only [List.map_append, List.map_cons, List.map_nil]
    rw [← h.eq, mv6_ltr rows n6 w (by omega)]
  · intro u hu
    rcases List.mem_append.1 hu with hu | hu
    · have := h.ok u hu
      exact ⟨this.1, by simp; omega⟩
    · simp at hu
      subst hu
      have := h.ok w hw
      exact ⟨okW_ext this.1 ha k3, by simp [extL, ltr]; omega⟩
  · simp; omega
end
def isF : AV → Bool
  | .fsl .. => true
  | _ => false
def Nf (h : Nat → Option AObj) (v : AV) (xs : List AV) (lo hi : Nat) : Prop := v = .fsl true xs.length xs ∨ ∃ R, v = .sl R 1 0 xs.length xs.length ∧ h R = some (.cells xs) ∧ lo ≤ R ∧ R < hi
section
variable {h h' : Nat → Option AObj} {v : AV} {xs : List AV} {lo hi hi' : Nat}
theorem Nf.fr (n : Nf h v xs lo hi) (e : ∀ y, lo ≤ y → y < hi → objId v = some y → h' y = h y) (l : hi ≤ hi') : Nf h' v xs lo hi' := by
  rcases n with rfl | ⟨R, rfl, h1, h2, h3⟩
  · exact .inl rfl
  · exact .inr ⟨R, rfl, by rw [e R h2 h3 rfl, h1], h2, by omega⟩
theorem Nf.one (n : Nf h v xs lo hi) : v.one = true := by
  rcases n with rfl | ⟨R, rfl, h1, h2, h3⟩ <;> rfl
theorem Nf.oid (n : Nf h v xs lo hi) {y : Nat} (e : objId v = some y) : lo ≤ y ∧ y < hi := by
  rcases n with rfl | ⟨R, rfl, h1, h2, h3⟩
  · cases e
  · simp [objId] at e; omega
theorem Nf.len (n : Nf h v xs lo hi) : lenSl v = some (.int .i64 xs.length) := by
  rcases n with rfl | ⟨R, rfl, h1, h2, h3⟩ <;> rfl
theorem Nf.at (n : Nf h v xs lo hi) {i : Nat} (hi' : i < xs.length) : ∃ p, idxSl 1 v (.int .i64 i) = some p ∧ (∀ nx, loadA false 1 ⟨h, nx⟩ p = xs[i]?) ∧ objId p = objId v := by
  rcases n with rfl | ⟨R, rfl, h1, h2, h3⟩
  · exact ⟨.fptr (xs.drop i), by simp [hi'], fun nx => by simp [loadA, readN, read1, List.head?_drop], rfl⟩
  · exact ⟨.ptr R i xs.length, by simp [hi'], fun nx => by simp [h1], rfl⟩
theorem Nf.deep (n : Nf h v xs lo hi) (d : Nat) (hd : ∀ x ∈ xs, AM.deep h d x = some x) : AM.deep h (d + 1) v = some (.fsl (isF v) xs.length xs) := by
  rcases n with rfl | ⟨R, rfl, h1, h2, h3⟩
  · rfl
  · simp [AM.deep, h1, mapO_same xs hd, isF]
theorem Nf.app {nx by' : Nat} (n : Nf h v xs lo hi) (hh : hi ≤ nx) (hl : lo ≤ nx) (hr : room (xs.length + 1) by' = true) (y : AV) :
    ∃ v' h' nx', appT 1 by' ⟨h, nx⟩ v (some (1, [y])) = some (v', ⟨h', nx'⟩) ∧ Nf h' v' (xs ++ [y]) lo nx' ∧ nx ≤ nx' ∧ nx' ≤ nx + 1 ∧ (∀ z, objId v' = some z → objId v = some z ∨ z = nx) ∧ (∀ z, objId v' ≠ some z → h' z = h z) ∧ isF v' = false := by
  rcases n with rfl | ⟨R, rfl, h1, h2, h3⟩
  · refine ⟨.sl nx 1 0 (xs.length + 1) (xs.length + 1), upd h nx (some (.cells (xs ++ [y]))), nx + 1, ?_, .inr ⟨nx, by simp, by simp, hl, by omega⟩, by omega, by omega, fun z e => .inr (by simp [objId] at e; omega), fun z e => updNe (fun q => e (by rw [q]; rfl)), rfl⟩
    simp at hr
    simp [Mem.new, hr]
  · refine ⟨.sl R 1 0 (xs.length + 1) (xs.length + 1), upd h R (some (.cells (xs ++ [y]))), nx, ?_, .inr ⟨R, by simp, by simp, h2, by omega⟩, by omega, by omega, fun z e => .inl e, fun z e => updNe (fun q => e (by rw [q]; rfl)), rfl⟩
    simp at hr
    simp [h1, hr.1, hr.2]
end
end Go.Proofs.Ythnpflkpjimkfaa

/-
  ALL ELEMENTS OF A MONOID: the program's search. Conditions: none.
-/
namespace Go.Proofs.Ythnpflkpjimkfaa
open Go.AM
open Go.Proofs.Try (prog)
set_option linter.all false
set_option maxRecDepth 100000
set_option maxHeartbeats 8000000
def natV (x : Nat) : AV := .int .i64 (x : Nat)
structure Md (m : Mem) (M O : Nat) (nv gv wv : AV) (S : SM) (lo : Nat) : Prop where
  o : m.h M = some (.cells [nv, gv, wv, .map O])
  w : Nf m.h wv (S.2.map .str) lo m.nx
  p : Mp m O (S.1.map encM) ((List.range S.1.length).map natV)
  mo : M < lo ∧ O < lo ∧ M ≠ O
  x : isF wv = decide (S.2.length = 1)
end Go.Proofs.Ythnpflkpjimkfaa

/-
  ELEMENTS' NUMBERS: the program's Monoid, Element, Idempotents. Conditions: none.
-/
namespace Go.Proofs.Ythnpflkpjimkfaa
open Go.AM
open Go.Proofs.Try (prog)
set_option linter.all false
set_option maxRecDepth 100000
set_option maxHeartbeats 8000000
def numM (rows : List (List Int)) (S : SM) (w : List UInt8) : Nat := S.1.idxOf (mv6 rows w)
structure MW (rows : List (List Int)) (k : Nat) (S : SM) : Prop where
  ok : MOk rows k S
  pre : ∃ p q, S.1 = [mv6 rows []] ++ p ∧ S.2 = [[]] ++ q
  cl : ∀ x ∈ S.1, ∀ a, a < k → nxM rows x a ∈ S.1
section
variable {rows : List (List Int)} {k : Nat} {S : SM}
theorem chr_ltr {c : UInt8} (h : 97 ≤ c.toNat) : [c] = ltr (c.toNat - 97) := by
  rw [ltr, show 97 + (c.toNat - 97) = c.toNat by omega]
  simp
theorem MW.mem (h : MW rows k S) (n6 : rows.length ≤ 6) (k3 : k ≤ 3) : ∀ (w p : List UInt8), okW k w → mv6 rows p ∈ S.1 → mv6 rows (p ++ w) ∈ S.1
  | [], p, _, hp => by simpa using hp
  | c :: w, p, hw, hp => by
    have hc := hw c (by simp)
    have e : p ++ c :: w = (p ++ [c]) ++ w := by simp
    rw [e]
    refine MW.mem h n6 k3 w (p ++ [c]) (fun b hb => hw b (by simp [hb])) ?_
    rw [chr_ltr hc.1]
    have := mv6_ltr rows n6 p (a := c.toNat - 97) (by omega)
    rw [extL] at this
    rw [this]
    exact h.cl _ hp _ hc.2
theorem MW.all (h : MW rows k S) (n6 : rows.length ≤ 6) (k3 : k ≤ 3) {w : List UInt8} (hw : okW k w) : mv6 rows w ∈ S.1 := by
  have := h.mem n6 k3 w [] hw (by obtain ⟨p, _, e, _⟩ := h.pre; rw [e]; simp)
  simpa using this
theorem MW.lt (h : MW rows k S) (n6 : rows.length ≤ 6) (k3 : k ≤ 3) {w : List UInt8} (hw : okW k w) : numM rows S w < S.1.length := List.idxOf_lt_length_iff.2 (h.all n6 k3 hw)
theorem MW.at (h : MW rows k S) (n6 : rows.length ≤ 6) (k3 : k ≤ 3) {w : List UInt8} (hw : okW k w) : S.1[numM rows S w]? = some (mv6 rows w) := by
  have hl := h.lt n6 k3 hw
  rw [List.getElem?_eq_getElem hl]
  simp [numM]
theorem MW.pos (h : MW rows k S) : 0 < S.1.length := by obtain ⟨p, _, e, _⟩ := h.pre; rw [e]; simp
def wrd (S : SM) (i : Nat) : List UInt8 := S.2.getD i []
theorem MW.wok (h : MW rows k S) {i : Nat} (hi : i < S.1.length) : S.2[i]? = some (wrd S i) ∧ okW k (wrd S i) ∧ (wrd S i).length ≤ 400 ∧ S.1[i]? = some (mv6 rows (wrd S i)) := by
  have hi2 : i < S.2.length := by rw [← h.ok.len]; exact hi
  have e : S.2[i]? = some (wrd S i) := by simp [wrd, List.getD_eq_getElem?_getD, hi2]
  have hm := List.mem_of_getElem? e
  have := h.ok.ok _ hm
  have hle := h.ok.le
  have hlen := h.ok.len
  refine ⟨e, this.1, by omega, ?_⟩
  rw [h.ok.eq, List.getElem?_map, e]; rfl
theorem MW.self (h : MW rows k S) {i : Nat} (hi : i < S.1.length) : numM rows S (wrd S i) = i := by
  obtain ⟨_, _, _, e⟩ := h.wok hi
  have e' := (List.getElem?_eq_some_iff.1 e).2
  rw [numM, ← e']
  exact h.ok.nd.idxOf_getElem i hi
end
end Go.Proofs.Ythnpflkpjimkfaa

/-
  Monoid, Element, Idempotents: what the program returns. Conditions: none.
-/
namespace Go.Proofs.Ythnpflkpjimkfaa
open Go.AM
open Go.Proofs.Try (prog)
set_option linter.all false
set_option maxRecDepth 100000
set_option maxHeartbeats 8000000
end Go.Proofs.Ythnpflkpjimkfaa

/-
  BRANDS THAT ACCEPT THE SAME WORDS have the same smallest form: plain law. Conditions: none.
-/
namespace Go.Proofs.Ythnpflkpjimkfaa
open Go.AM
open Go.Proofs.Try (prog)
set_option linter.all false
set_option maxRecDepth 100000
set_option maxHeartbeats 8000000
def Xl (rows rows' : List (List Int)) (good good' : List Bool) (k s s' : Nat) : Prop := ∀ w : List Nat, (∀ a ∈ w, a < k) → bnth good (gow rows s w) = bnth good' (gow rows' s' w)
section
variable {rows rows' : List (List Int)} {good good' : List Bool} {k : Nat}
theorem Xl.step {s s' a : Nat} (h : Xl rows rows' good good' k s s') (ha : a < k) : Xl rows rows' good good' k (nx rows s a) (nx rows' s' a) := fun w hw => h (a :: w) (by
  intro b hb
  rcases List.mem_cons.1 hb with rfl | hb
  · exact ha
  · exact hw b hb)
theorem Xl.al {s s' t t' : Nat} (h : Xl rows rows' good good' k s s') (g : Xl rows rows' good good' k t t') : alB rows good k s t = alB rows' good' k s' t' := by
  rw [Bool.eq_iff_iff, alB_iff, alB_iff]
  constructor
  · intro q w hw; rw [← h w hw, ← g w hw]; exact q w hw
  · intro q w hw; rw [h w hw, g w hw]; exact q w hw
structure Al2 (X : Nat → Nat → Prop) (P P' : List Nat) : Prop where
  l : P.length = P'.length
  e : ∀ i (h : i < P.length) (h' : i < P'.length), X P[i] P'[i]
theorem Al2.app {X : Nat → Nat → Prop} {P P' : List Nat} (h : Al2 X P P') {s s' : Nat} (hs : X s s') : Al2 X (P ++ [s]) (P' ++ [s']) := by
  refine ⟨by simp [h.l], fun i h1 h2 => ?_⟩
  by_cases q : i < P.length
  · rw [List.getElem_append_left q, List.getElem_append_left (by rw [← h.l]; exact q)]
    exact h.e i q _
  · have e1 : i = P.length := by simp at h1; omega
    subst e1
    rw [List.getElem_append_right (by omega), List.getElem_append_right (by rw [← h.l]; omega)]
    simp [hs]
abbrev XX (rows rows' : List (List Int)) (good good' : List Bool) (k : Nat) := Al2 (Xl rows rows' good good' k)
theorem XX.any {P P' : List Nat} (h : XX rows rows' good good' k P P') {s s' : Nat} (hs : Xl rows rows' good good' k s s') : P.any (alB rows good k s) = P'.any (alB rows' good' k s') := by
  rw [Bool.eq_iff_iff, List.any_eq_true, List.any_eq_true]
  constructor
  · rintro ⟨x, hx, e⟩
    obtain ⟨i, hi, rfl⟩ := List.getElem_of_mem hx
    have hi' : i < P'.length := by rw [← h.l]; exact hi
    exact ⟨P'[i], List.getElem_mem hi', by rw [← hs.al (h.e i hi hi')]; exact e⟩
  · rintro ⟨x, hx, e⟩
    obtain ⟨i, hi, rfl⟩ := List.getElem_of_mem hx
    have hi' : i < P.length := by rw [h.l]; exact hi
    exact ⟨P[i], List.getElem_mem hi', by rw [hs.al (h.e i hi' hi)]; exact e⟩
theorem idx2 : ∀ (P P' : List Nat) (p p' : Nat → Bool), P.length = P'.length → (∀ i (h : i < P.length) (h' : i < P'.length), p P[i] = p' P'[i]) → P.findIdx p = P'.findIdx p'
  | [], [], _, _, _, _ => rfl
  | [], _ :: _, _, _, h, _ => by simp at h
  | _ :: _, [], _, _, h, _ => by simp at h
  | a :: P, b :: P', p, p', h, e => by
    have h0 := e 0 (by simp) (by simp)
    simp only [List.getElem_cons_zero] at h0
    rw [List.findIdx_cons, List.findIdx_cons, h0, idx2 P P' p p' (by simpa using h) (fun i h1 h2 => by
      have := e (i + 1) (by simpa using h1) (by simpa using h2)
      simpa using this)]
theorem XX.idx {P P' : List Nat} (h : XX rows rows' good good' k P P') {s s' : Nat} (hs : Xl rows rows' good good' k s s') : idxA (alB rows good k) P s = idxA (alB rows' good' k) P' s' :=
  idx2 P P' _ _ h.l fun i h1 h2 => hs.al (h.e i h1 h2)
theorem XX.num {P P' : List Nat} (h : XX rows rows' good good' k P P') {s s' : Nat} (hs : Xl rows rows' good good' k s s') : XX rows rows' good good' k (numS (alB rows good k) s P) (numS (alB rows' good' k) s' P') := by
  rw [numS, numS, h.any hs]
  split
  · exact h
  · exact h.app hs
theorem XX.adds {q q' : Nat} (hq : Xl rows rows' good good' k q q') : ∀ (c a : Nat) (P P' : List Nat), a + c ≤ k → XX rows rows' good good' k P P' → XX rows rows' good good' k (addsN (alB rows good k) (nx rows) q c a P) (addsN (alB rows' good' k) (nx rows') q' c a P')
  | 0, a, P, P', _, h => h
  | c + 1, a, P, P', ha, h => by
    rw [addsN, addsN, List.range'_succ, List.foldl_cons, List.foldl_cons]
    exact XX.adds hq c (a + 1) _ _ (by omega) (h.num (hq.step (by omega)))
theorem XX.bld : ∀ (f i : Nat) (P P' : List Nat), XX rows rows' good good' k P P' → XX rows rows' good good' k (bldN (alB rows good k) (nx rows) k f i P) (bldN (alB rows' good' k) (nx rows') k f i P')
  | 0, i, P, P', h => h
  | f + 1, i, P, P', h => by
    rw [bldN, bldN]
    by_cases q : i < P.length
    · have q' : i < P'.length := by rw [← h.l]; exact q
      rw [List.getElem?_eq_getElem q, List.getElem?_eq_getElem q']
      exact XX.bld f (i + 1) _ _ (XX.adds (h.e i q q') k 0 P P' (by omega) h)
    · have q' : ¬ i < P'.length := by rw [← h.l]; exact q
      rw [List.getElem?_eq_none (by omega), List.getElem?_eq_none (by omega)]
      exact h
theorem repL_fuel (v : VB rows good k) (f : Nat) (hf : rows.length < f) : bldN (alB rows good k) (nx rows) k f 0 [0] = repL rows good k := by
  have n1 := v.n1
  have := bfs_ded (ext := extL) (ln := List.length) (lik_alB v) (fun w a => by simp [extL, ltr]) (rows.length + 1) 0 ([0], [([] : List UInt8)]) ⟨by simp, by intro x hx; simp at hx; omega, rfl, by simp⟩ (by simp) (by omega) (by simp) f (by omega)
  exact this
theorem rep2 (v : VB rows good k) (v' : VB rows' good' k) (h : Xl rows rows' good good' k 0 0) : XX rows rows' good good' k (repL rows good k) (repL rows' good' k) := by
  have n6 := v.n6
  have n6' := v'.n6
  rw [← repL_fuel v 7 (by omega), ← repL_fuel v' 7 (by omega)]
  refine XX.bld 7 0 [0] [0] ⟨rfl, fun i h1 h2 => ?_⟩
  have : i = 0 := by simp at h1; omega
  subst this
  exact h
theorem canon (v : VB rows good k) (v' : VB rows' good' k) (h : Xl rows rows' good good' k 0 0) : rowsM rows good k = rowsM rows' good' k ∧ goodM rows good k = goodM rows' good' k := by
  have h2 := rep2 v v' h
  constructor
  · refine List.ext_getElem (by simp [rowsM, h2.l]) fun i h3 h4 => ?_
    simp only [rowsM, List.length_map] at h3 h4
    simp only [rowsM, List.getElem_map]
    refine List.map_congr_left fun a ha => ?_
    have ha : a < k := by simpa using ha
    rw [h2.idx ((h2.e i h3 h4).step ha)]
  · refine List.ext_getElem (by simp [goodM, h2.l]) fun i h3 h4 => ?_
    simp only [goodM, List.length_map] at h3 h4
    simp only [goodM, List.getElem_map]
    exact h2.e i h3 h4 [] (by simp)
theorem nx_M {i a : Nat} (hi : i < (repL rows good k).length) (ha : a < k) : nx (rowsM rows good k) i a = idxA (alB rows good k) (repL rows good k) (nx rows (repL rows good k)[i] a) := by
  have row : cth (rowsM rows good k) i = (List.range k).map fun a => ((idxA (alB rows good k) (repL rows good k) (nx rows (repL rows good k)[i] a) : Nat) : Int) := by simp [cth, rowsM, hi, List.getD_eq_getElem?_getD]
  rw [nx, row]
  simp [nth, ha, List.getD_eq_getElem?_getD]
theorem small_X (v : VB rows good k) {i : Nat} (hi : i < (repL rows good k).length) : Xl rows (rowsM rows good k) good (goodM rows good k) k (repL rows good k)[i] i := by
  intro w
  induction w generalizing i with
  | nil => intro _; simp [gow, bnth, goodM, hi, List.getD_eq_getElem?_getD]
  | cons a w ih =>
    intro hw
    have ha : a < k := hw a (by simp)
    obtain ⟨R1, R2⟩ := rch_ok v
    have hm : (repL rows good k)[i] ∈ (rchS rows k).1 := ded_mem (List.getElem_mem hi)
    have hany : (repL rows good k).any (alB rows good k (nx rows (repL rows good k)[i] a)) = true := ded_any (lik_alB v) (rchS rows k).1 R1.all _ (R2 _ hm a ha)
    have hj : idxA (alB rows good k) (repL rows good k) (nx rows (repL rows good k)[i] a) < (repL rows good k).length := idxA_lt hany
    have hal : alB rows good k (nx rows (repL rows good k)[i] a) ((repL rows good k)[idxA (alB rows good k) (repL rows good k) (nx rows (repL rows good k)[i] a)]'hj) = true := List.findIdx_getElem (w := hj)
    have hw' : ∀ b ∈ w, b < k := fun b hb => hw b (by simp [hb])
    have h1 := alB_iff.1 hal w hw'
    have h2 := ih hj hw'
    show bnth good (gow rows (nx rows (repL rows good k)[i] a) w) = bnth (goodM rows good k) (gow (rowsM rows good k) (nx (rowsM rows good k) i a) w)
    rw [nx_M hi ha, h1, h2]
theorem repL_0 (v : VB rows good k) : ∃ h : 0 < (repL rows good k).length, (repL rows good k)[0] = 0 := by
  have h := (repL_few v).2.1
  refine ⟨h, ?_⟩
  have n1 := v.n1
  have e := repL_fuel v (rows.length + 1) (by omega)
  have key : ∀ (f i : Nat) (P : List Nat), ∃ l, bldN (alB rows good k) (nx rows) k f i P = P ++ l := by
    intro f
    induction f with
    | zero => intro i P; exact ⟨[], by simp [bldN]⟩
    | succ f ih =>
      intro i P
      rw [bldN]
      split
      · rename_i q _
        obtain ⟨l, e1⟩ := addsN_pre (al := alB rows good k) (nxt := nx rows) q k 0 P
        obtain ⟨l2, e2⟩ := ih (i + 1) (addsN (alB rows good k) (nx rows) q k 0 P)
        exact ⟨l ++ l2, by rw [e2, e1, List.append_assoc]⟩
      · exact ⟨[], by simp⟩
  obtain ⟨l, e2⟩ := key (rows.length + 1) 0 [0]
  rw [e] at e2
  simp only [e2]
  rfl
theorem small_lang (v : VB rows good k) : Xl rows (rowsM rows good k) good (goodM rows good k) k 0 0 := by
  obtain ⟨h, e⟩ := repL_0 v
  have := small_X v h
  rw [e] at this
  exact this
theorem small_small (v : VB rows good k) : rowsM (rowsM rows good k) (goodM rows good k) k = rowsM rows good k ∧ goodM (rowsM rows good k) (goodM rows good k) k = goodM rows good k := by
  obtain ⟨h1, h2⟩ := canon v (VB_M v) (small_lang v)
  exact ⟨h1.symm, h2.symm⟩
theorem bIn_all {α β : Type} [DecidableEq α] {nxt : α → Nat → α} {ext : β → Nat → β} {I : α → Prop} {k : Nat} (hI : ∀ x a, I x → a < k → I (nxt x a)) {x : α} (hx : I x) (w : β) : ∀ (j a : Nat) (s : List α × List β), a + j ≤ k → (∀ y ∈ s.1, I y) → ∀ y ∈ (bIn nxt ext x w j a s).1, I y
  | 0, _, s, _, h => h
  | j + 1, a, s, ha, h => by
    rw [bIn]
    split
    · exact bIn_all hI hx w j (a + 1) s (by omega) h
    · refine bIn_all hI hx w j (a + 1) _ (by omega) fun y hy => ?_
      rcases List.mem_append.1 hy with hy | hy
      · exact h y hy
      · simp at hy; rw [hy]; exact hI x a hx (by omega)
theorem bfs_none {α β : Type} [DecidableEq α] {nxt : α → Nat → α} {ext : β → Nat → β} {stop : α → Bool} {I : α → Prop} {k : Nat} (hI : ∀ x a, I x → a < k → I (nxt x a)) (hs : ∀ x, I x → stop x = false) : ∀ (f i : Nat) (s : List α × List β), (∀ y ∈ s.1, I y) → bfs nxt ext stop k f i s = none
  | 0, _, _, _ => rfl
  | f + 1, i, s, h => by
    rw [bfs]
    split
    · rename_i x w e1 e2
      have hx := h x (List.mem_of_getElem? e1)
      rw [if_neg (by rw [hs x hx]; simp)]
      exact bfs_none hI hs f (i + 1) _ (bIn_all hI hx w k 0 s (by omega) h)
    · rfl
theorem dfr_none (h : Xl rows rows' good good' k 0 0) : dfrW rows rows' good good' k = none :=
  bfs_none (I := fun x => Xl rows rows' good good' k x.1 x.2) (fun x a hx ha => hx.step ha) (fun x hx => by
    have := hx [] (by simp)
    simp only [gow, List.foldl_nil] at this
    simp [stP, this]) 37 0 _ (by intro y hy; simp at hy; rw [hy]; exact h)
theorem gow_goL (rows : List (List Int)) : ∀ (w : List UInt8) (s : Nat), gow rows s (w.map fun c => c.toNat - 97) = goL rows w s
  | [], s => rfl
  | c :: w, s => by rw [goL, ← gow_goL rows w]; rfl
theorem Xl.goL {s s' : Nat} (h : Xl rows rows' good good' k s s') {w : List UInt8} (hw : okW k w) : bnth good (goL rows w s) = bnth good' (Go.Proofs.Ythnpflkpjimkfaa.goL rows' w s') := by
  have := h (w.map fun c => c.toNat - 97) (fun a ha => by
    obtain ⟨c, hc, rfl⟩ := List.mem_map.1 ha
    exact (hw c hc).2)
  rw [gow_goL, gow_goL] at this
  exact this
end
end Go.Proofs.Ythnpflkpjimkfaa

/-
  BODIES OF FUNCTIONS OF THE PROGRAM AS SMALL OPERATIONS (written by gen.py; checked by the kernel against the program). Conditions: none.
-/
namespace Go.Proofs.Ythnpflkpjimkfaa
open Go.AM
open Go.Proofs.Try (prog)
set_option maxRecDepth 100000
set_option linter.all false
end Go.Proofs.Ythnpflkpjimkfaa

/-
  WHAT WORDS DO, AS STRINGS OF STATES: the specification's. Conditions: none.
-/
namespace Go.Proofs.Ythnpflkpjimkfaa
open Go.AM
open Go.Proofs.Try (prog)
set_option linter.all false
set_option maxRecDepth 100000
set_option maxHeartbeats 8000000
def bysV (l : List UInt8) : List AV := l.map fun b => .int .u8 (b.toNat : Nat)
@[simp] theorem bysV_len (l : List UInt8) : (bysV l).length = l.length := by simp [bysV]
def doF (f : Nat → Nat) (c : Nat) : List UInt8 := (List.range c).map fun s => UInt8.ofNat (f s)
def encD (n : Nat) (t : List Nat) : List UInt8 := doF (fun s => t.getD s 0) n
@[simp] theorem doF_len (f : Nat → Nat) (c : Nat) : (doF f c).length = c := by simp [doF]
theorem ofNat6 {x : Nat} (h : x < 256) : (UInt8.ofNat x).toNat = x := by simp; omega
end Go.Proofs.Ythnpflkpjimkfaa

/-
  ALL ELEMENTS OF A MONOID: the specification's search. Conditions: none.
-/
namespace Go.Proofs.Ythnpflkpjimkfaa
open Go.AM
open Go.Proofs.Try (prog)
set_option linter.all false
set_option maxRecDepth 100000
set_option maxHeartbeats 8000000
structure Dw (h : Nat → Option AObj) (M : Nat) (dv wv : AV) (n : Nat) (S : SM) (lo hi : Nat) : Prop where
  o : h M = some (.cells [dv, wv])
  d : Nf h dv ((S.1.map (encD n)).map .str) lo hi
  w : Nf h wv (S.2.map .str) lo hi
  dj : ∀ y, objId dv = some y → objId wv ≠ some y
  z : h 0 = some (.cells [.nils, .nils])
  mo : M < lo ∧ 0 < M
  x : isF dv = decide (S.2.length = 1) ∧ isF wv = decide (S.2.length = 1)
end Go.Proofs.Ythnpflkpjimkfaa

/-
  PRODUCTS, ELEMENTS, IDEMPOTENTS: the specification's; lists of strings that are the same. Conditions: none.
-/
namespace Go.Proofs.Ythnpflkpjimkfaa
open Go.AM
open Go.Proofs.Try (prog)
set_option linter.all false
set_option maxRecDepth 100000
set_option maxHeartbeats 8000000
section
variable {rows : List (List Int)} {good : List Bool} {k : Nat} {S : SM}
end
end Go.Proofs.Ythnpflkpjimkfaa

/-
  ELEMENTS AND IDEMPOTENTS: the specification's; lists of strings that are the same. Conditions: none.
-/
namespace Go.Proofs.Ythnpflkpjimkfaa
open Go.AM
open Go.Proofs.Try (prog)
set_option linter.all false
set_option maxRecDepth 100000
set_option maxHeartbeats 8000000
def IsS (v : AV) (l : List (List UInt8)) : Prop := (v = .nils ∧ l = []) ∨ ∃ ex, v = .fsl ex l.length (l.map .str)
theorem IsS.len {v : AV} {l : List (List UInt8)} (h : IsS v l) : lenSl v = some (.int .i64 l.length) := by rcases h with ⟨rfl, rfl⟩ | ⟨_, rfl⟩ <;> rfl
theorem IsS.closed {v : AV} {l : List (List UInt8)} (h : IsS v l) : v.closed = true := by rcases h with ⟨rfl, rfl⟩ | ⟨_, rfl⟩ <;> rfl
theorem IsS.one {v : AV} {l : List (List UInt8)} (h : IsS v l) : v.one = true := by rcases h with ⟨rfl, rfl⟩ | ⟨_, rfl⟩ <;> rfl
theorem IsS.idx {v : AV} {l : List (List UInt8)} (h : IsS v l) {i : Nat} (hi : i < l.length) (k : IntKind) : idxSl 1 v (.int k (i : Int)) = some (.fptr ((l.map .str).drop i)) := by
  rcases h with ⟨rfl, rfl⟩ | ⟨_, rfl⟩
  · simp at hi
  · simp [hi]
end Go.Proofs.Ythnpflkpjimkfaa

/-
  BODIES OF FUNCTIONS OF THE PROGRAM AS SMALL OPERATIONS (written by gen.py; checked by the kernel against the program). Conditions: none.
-/
namespace Go.Proofs.Ythnpflkpjimkfaa
open Go.AM
open Go.Proofs.Try (prog)
set_option maxRecDepth 100000
set_option linter.all false
end Go.Proofs.Ythnpflkpjimkfaa

/-
  ALL PRODUCTS: the specification's table. Conditions: none.
-/
namespace Go.Proofs.Ythnpflkpjimkfaa
open Go.AM
open Go.Proofs.Try (prog)
set_option linter.all false
set_option maxRecDepth 100000
set_option maxHeartbeats 8000000
end Go.Proofs.Ythnpflkpjimkfaa

/-
  BELOW: the elements that are reached by writing letters before or after. The law. Conditions: none.
-/
namespace Go.Proofs.Ythnpflkpjimkfaa
open Go.AM
open Go.Proofs.Try (prog)
set_option linter.all false
set_option maxRecDepth 100000
set_option maxHeartbeats 4000000
inductive Rch (stp : Nat → List Nat) (i : Nat) : Nat → Prop
  | refl : Rch stp i i
  | step {j k : Nat} : Rch stp i j → k ∈ stp j → Rch stp i k
abbrev VP := List Bool × List Nat
def cf (row : List Bool) : Nat := row.countP fun b => !b
structure VI (n : Nat) (stp : Nat → List Nat) (i : Nat) (P : VP) : Prop where
  l : P.1.length = n
  m : bnth P.1 i = true
  r : ∀ j, j < n → bnth P.1 j = true → Rch stp i j
  t : ∀ j ∈ P.2, j < n ∧ bnth P.1 j = true
  c : ∀ j, j < n → bnth P.1 j = true → j ∈ P.2 ∨ ∀ k ∈ stp j, bnth P.1 k = true
section
variable {n : Nat} {stp : Nat → List Nat} {i : Nat}
end
section
variable {rows : List (List Int)} {k : Nat} {S : SM}
def stpM (rows : List (List Int)) (S : SM) (k : Nat) (lf rt : Bool) (i : Nat) : List Nat := (List.range k).flatMap fun a => (if lf = true then [numM rows S (ltr a ++ wrd S i)] else []) ++ (if rt = true then [numM rows S (wrd S i ++ ltr a)] else [])
def Blw (rows : List (List Int)) (S : SM) (k : Nat) (lf rt : Bool) (i j : Nat) : Prop := ∃ u v, okW k u ∧ okW k v ∧ (lf = false → u = []) ∧ (rt = false → v = []) ∧ numM rows S (u ++ wrd S i ++ v) = j
theorem mv6_congr {u u' w w' : List UInt8} (h1 : ∀ s, s < rows.length → goL rows u s = goL rows u' s) (hlt : ∀ s, s < rows.length → goL rows u' s < rows.length) (h2 : ∀ s, s < rows.length → goL rows w s = goL rows w' s) : ∀ s, s < rows.length → goL rows (u ++ w) s = goL rows (u' ++ w') s := fun s hs => by
  have ga : ∀ (u w : List UInt8) (s : Nat), goL rows (u ++ w) s = goL rows w (goL rows u s) := by
    intro u
    induction u with
    | nil => intro w s; rfl
    | cons c u ih => intro w s; rw [List.cons_append, goL, goL, ih]
  rw [ga, ga, h1 s hs, h2 _ (hlt s hs)]
theorem mv6_ext {u u' : List UInt8} (h : ∀ s, s < rows.length → goL rows u s = goL rows u' s) : mv6 rows u = mv6 rows u' := by
  rw [mv6, mv6, mvF, mvF]
  refine List.map_congr_left fun s hs => ?_
  by_cases q : s < rows.length
  · rw [if_pos q, if_pos q, h s q]
  · rw [if_neg q, if_neg q]
theorem mv6_at {u u' : List UInt8} (n6 : rows.length ≤ 6) (h : mv6 rows u = mv6 rows u') : ∀ s, s < rows.length → goL rows u s = goL rows u' s := fun s hs => by
  have e1 : (mv6 rows u).getD s 0 = goL rows u s := mvF_at (by omega) hs
  have e2 : (mv6 rows u').getD s 0 = goL rows u' s := mvF_at (by omega) hs
  rw [← e1, ← e2, h]
variable {good : List Bool}
theorem goL_lt7 (v : VB rows good k) {w : List UInt8} (hw : okW k w) {s : Nat} (hs : s < rows.length) : goL rows w s < rows.length := by
  have := goL_lt v w w.length 0 s (by omega) hs ((letF_iff k w).2 hw)
  rw [goF_goL rows w w.length 0 s (by omega)] at this
  simpa using this
theorem num_congr (v : VB rows good k) {u w w' x : List UInt8} (hu : okW k u) (hw : okW k w) (hw' : okW k w') (h : mv6 rows w = mv6 rows w') : numM rows S (u ++ w ++ x) = numM rows S (u ++ w' ++ x) := by
  have h1 := mv6_at v.n6 h
  have : mv6 rows (u ++ w ++ x) = mv6 rows (u ++ w' ++ x) := mv6_ext (mv6_congr (mv6_congr (fun _ _ => rfl) (fun s hs => goL_lt7 v hu hs) h1) (fun s hs => goL_lt7 v (okW_app hu hw') hs) (fun _ _ => rfl))
  rw [numM, numM, this]
theorem wrd_num (v : VB rows good k) (W : MW rows k S) {w : List UInt8} (hw : okW k w) : mv6 rows (wrd S (numM rows S w)) = mv6 rows w := by
  have h1 := W.at v.n6 v.k3 hw
  obtain ⟨_, _, _, h2⟩ := W.wok (W.lt v.n6 v.k3 hw)
  rw [h1] at h2
  exact (Option.some.inj h2).symm
theorem okW_ltr {a : Nat} (ha : a < k) (k3 : k ≤ 3) : okW k (ltr a) := by
  have := okW_ext (okW_nil k) ha k3
  simpa [extL] using this
theorem blw_of_rch (v : VB rows good k) (W : MW rows k S) {lf rt : Bool} {i j : Nat} (hi : i < S.1.length) (r : Rch (stpM rows S k lf rt) i j) : Blw rows S k lf rt i j := by
  obtain ⟨_, wi, _, _⟩ := W.wok hi
  induction r with
  | refl => exact ⟨[], [], okW_nil k, okW_nil k, fun _ => rfl, fun _ => rfl, by simpa using W.self hi⟩
  | step r1 hk ih =>
    rename_i j k'
    obtain ⟨u, x, hu, hx, h1, h2, e⟩ := ih
    have hok := okW_app (okW_app hu wi) hx
    have hj : mv6 rows (wrd S j) = mv6 rows (u ++ wrd S i ++ x) := by rw [← e]; exact wrd_num v W hok
    have hjl : j < S.1.length := by rw [← e]; exact W.lt v.n6 v.k3 hok
    obtain ⟨_, wj, _, _⟩ := W.wok hjl
    simp only [stpM, List.mem_flatMap, List.mem_range] at hk
    obtain ⟨a, ha, hk⟩ := hk
    have ho := okW_ltr ha v.k3
    rcases List.mem_append.1 hk with hk | hk
    · split at hk
      · rename_i hl
        simp at hk
        refine ⟨ltr a ++ u, x, okW_app ho hu, hx, fun q => (by rw [hl] at q; cases q), h2, ?_⟩
        have := num_congr (S := S) (x := []) v ho wj hok hj
        simp only [List.append_nil] at this
        rw [hk, this]; simp only [List.append_assoc]
      · simp at hk
    · split at hk
      · rename_i hl
        simp at hk
        refine ⟨u, x ++ ltr a, hu, okW_app hx ho, h1, fun q => (by rw [hl] at q; cases q), ?_⟩
        have := num_congr (S := S) (u := []) (x := ltr a) v (okW_nil k) wj hok hj
        simp only [List.nil_append] at this
        rw [hk, this]; simp only [List.append_assoc]
      · simp at hk
theorem rch_of_blw (v : VB rows good k) (W : MW rows k S) {lf rt : Bool} {i j : Nat} (hi : i < S.1.length) (b : Blw rows S k lf rt i j) : Rch (stpM rows S k lf rt) i j := by
  obtain ⟨_, wi, _, _⟩ := W.wok hi
  have left : ∀ (u : List UInt8), okW k u → (lf = false → u = []) → Rch (stpM rows S k lf rt) i (numM rows S (u ++ wrd S i)) := by
    intro u
    induction u with
    | nil => intro _ _; rw [List.nil_append, W.self hi]; exact .refl
    | cons c u ih =>
      intro hu hl
      have hlt : lf = true := by cases lf with
        | true => rfl
        | false => exact absurd (hl rfl) (by simp)
      have hu' : okW k u := fun b hb => hu b (by simp [hb])
      have hc := hu c (by simp)
      have r := ih hu' (fun q => by rw [hlt] at q; cases q)
      refine r.step ?_
      have hok := okW_app hu' wi
      have hjl := W.lt v.n6 v.k3 hok
      obtain ⟨_, wj, _, _⟩ := W.wok hjl
      simp only [stpM, List.mem_flatMap, List.mem_range]
      refine ⟨c.toNat - 97, hc.2, List.mem_append_left _ ?_⟩
      rw [if_pos hlt, ← chr_ltr hc.1]
      have := num_congr (S := S) (u := [c]) (x := []) v (fun b hb => hu b (by simp at hb; simp [hb])) wj hok (wrd_num v W hok)
      simp only [List.append_nil] at this
      rw [this]; simp
  obtain ⟨u, x, hu, hx, h1, h2, e⟩ := b
  have right : ∀ (x y : List UInt8), okW k x → okW k y → (rt = false → x = []) → Rch (stpM rows S k lf rt) i (numM rows S (u ++ wrd S i ++ y)) → Rch (stpM rows S k lf rt) i (numM rows S (u ++ wrd S i ++ y ++ x)) := by
    intro x
    induction x with
    | nil => intro y _ _ _ r; rw [List.append_nil]; exact r
    | cons c x ih =>
      intro y hx hy hl r
      have hrt : rt = true := by cases rt with
        | true => rfl
        | false => exact absurd (hl rfl) (by simp)
      have hc := hx c (by simp)
      have hx' : okW k x := fun b hb => hx b (by simp [hb])
      have hc1 : okW k [c] := fun b hb => hx b (by simp at hb; simp [hb])
      have e1 : u ++ wrd S i ++ y ++ c :: x = u ++ wrd S i ++ (y ++ [c]) ++ x := by simp
      rw [e1]
      refine ih (y ++ [c]) hx' (okW_app hy hc1) (fun q => by rw [hrt] at q; cases q) (r.step ?_)
      have hok := okW_app (okW_app hu wi) hy
      have hjl := W.lt v.n6 v.k3 hok
      obtain ⟨_, wj, _, _⟩ := W.wok hjl
      simp only [stpM, List.mem_flatMap, List.mem_range]
      refine ⟨c.toNat - 97, hc.2, List.mem_append_right _ ?_⟩
      rw [if_pos hrt, ← chr_ltr hc.1]
      have := num_congr (S := S) (u := []) (x := [c]) v (okW_nil k) wj hok (wrd_num v W hok)
      simp only [List.nil_append] at this
      rw [this]; simp
  have := right x [] hx (okW_nil k) h2 (by rw [List.append_nil]; exact left u hu h1)
  rw [List.append_nil, e] at this
  exact this
end
end Go.Proofs.Ythnpflkpjimkfaa

/-
  BODIES OF FUNCTIONS OF THE PROGRAM AS SMALL OPERATIONS (written by gen.py; checked by the kernel against the program). Conditions: none.
-/
namespace Go.Proofs.Ythnpflkpjimkfaa
open Go.AM
open Go.Proofs.Try (prog)
set_option maxRecDepth 100000
set_option linter.all false
end Go.Proofs.Ythnpflkpjimkfaa

/-
  BELOW: the program's steps, a table of lists. Conditions: none.
-/
namespace Go.Proofs.Ythnpflkpjimkfaa
open Go.AM
open Go.Proofs.Try (prog)
set_option linter.all false
set_option maxRecDepth 100000
set_option maxHeartbeats 8000000
def vat (vs : List AV) (i : Nat) : AV := vs.getD i .nils
def lat (L : List (List Nat)) (i : Nat) : List Nat := L.getD i []
theorem vat_set {vs : List AV} {i j : Nat} {x : AV} (h : i < vs.length) : vat (vs.set i x) j = if i = j then x else vat vs j := by
  simp only [vat, List.getD_eq_getElem?_getD, List.getElem?_set]
  by_cases e : i = j
  · subst e; simp [h]
  · simp [e]
theorem lat_set {vs : List (List Nat)} {i j : Nat} {x : List Nat} (h : i < vs.length) : lat (vs.set i x) j = if i = j then x else lat vs j := by
  simp only [lat, List.getD_eq_getElem?_getD, List.getElem?_set]
  by_cases e : i = j
  · subst e; simp [h]
  · simp [e]
structure Tb (h : Nat → Option AObj) (T : Nat) (vs : List AV) (L : List (List Nat)) (lo hi : Nat) : Prop where
  o : h T = some (.cells vs)
  l : vs.length = L.length
  e : ∀ i, i < L.length → Nl h (vat vs i) ((lat L i).map natV) lo hi
  dj : ∀ i j, i < L.length → j < L.length → i ≠ j → ∀ y, objId (vat vs i) = some y → objId (vat vs j) ≠ some y
  t : T < lo
section
variable {h : Nat → Option AObj} {T : Nat} {vs : List AV} {L : List (List Nat)} {lo hi : Nat}
theorem Tb.ld (B : Tb h T vs L lo hi) {i : Nat} (hi : i < L.length) (nx : Nat) : loadA false 1 ⟨h, nx⟩ (.ptr T i L.length) = some (vat vs i) := by
  have hv : i < vs.length := by rw [B.l]; exact hi
  rw [loadA_ptr]
  show loadO false 1 i L.length (h T) = _
  rw [B.o, loadO_cells]
  simp [B.l, vat, hv, hi, List.getD_eq_getElem?_getD]
theorem Tb.fr {h' : Nat → Option AObj} {hi' : Nat} (B : Tb h T vs L lo hi) (e : ∀ y, y < hi → h' y = h y) (l : hi ≤ hi') (hl : lo ≤ hi) : Tb h' T vs L lo hi' :=
  ⟨by rw [e T (by have := B.t; omega), B.o], B.l, fun i hi => (B.e i hi).fr (fun y y1 y2 _ => e y y2) l, B.dj, B.t⟩
theorem Tb.push (B : Tb h T vs L lo hi) {nx : Nat} (hh : hi ≤ nx) (hl : lo ≤ hi) {i : Nat} (hiL : i < L.length) (hr : (lat L i).length ≤ 1000) (x : Nat) :
    ∃ v' h' nx', appT 1 8 ⟨h, nx⟩ (vat vs i) (some (1, [natV x])) = some (v', ⟨h', nx'⟩) ∧ (∀ n2, stA false 1 ⟨h', n2⟩ (.ptr T i L.length) v' = some (.tup [], ⟨upd h' T (some (.cells (vs.set i v'))), n2⟩)) ∧ Tb (upd h' T (some (.cells (vs.set i v')))) T (vs.set i v') (L.set i (lat L i ++ [x])) lo (nx + 1) ∧ (∀ y, y < lo → y ≠ T → (upd h' T (some (.cells (vs.set i v')))) y = h y) := by
  have hv : i < vs.length := by rw [B.l]; exact hiL
  have hT := B.t
  obtain ⟨v', h', nx', g1, g2, g3, g4, g5, g6, g7⟩ := (B.e i hiL).app (nx := nx) (by' := 8) hh (by omega) (by simp; omega) (natV x)
  have hid : ∀ y, objId v' = some y → lo ≤ y := fun y e => by
    rcases g5 y e with q | q
    · exact ((B.e i hiL).oid q).1
    · omega
  have hT' : h' T = some (.cells vs) := by rw [g6 T (fun e => by have := hid T e; omega), B.o]
  refine ⟨v', h', nx', g1, fun n2 => ?_, ⟨by simp, by simp [B.l], fun j hj => ?_, fun j j' hj hj' hne y => ?_, hT⟩, fun y y1 y2 => by rw [updNe y2, g6 y (fun e => by have := hid y e; omega)]⟩
  · rw [stA_ptr]
    show stO false 1 ⟨h', n2⟩ T i L.length v' (h' T) = _
    rw [hT', stO_cells0]
    simp [B.l, hiL, (show v'.one = true from g2.one), Mem.set]
  · have hj : j < L.length := by simpa using hj
    rw [vat_set hv, lat_set hiL]
    by_cases q : i = j
    · rw [if_pos q, if_pos q, List.map_append]
      exact g2.fr (fun y y1 y2 _ => updNe (by omega)) g4
    · rw [if_neg q, if_neg q]
      exact (B.e j hj).fr (fun y y1 y2 ye => by
        rw [updNe (by omega), g6 y (fun e => by
          rcases g5 y e with w | w
          · exact B.dj i j hiL hj q y w ye
          · omega)]) (by omega)
  · have hj : j < L.length := by simpa using hj
    have hj' : j' < L.length := by simpa using hj'
    rw [vat_set hv, vat_set hv]
    by_cases q : i = j
    · rw [if_pos q, if_neg (by omega)]
      intro e e'
      rcases g5 y e with w | w
      · exact B.dj i j' hiL hj' (by omega) y w e'
      · have := (B.e j' hj').oid e'; omega
    · rw [if_neg q]
      by_cases q' : i = j'
      · rw [if_pos q']
        intro e e'
        rcases g5 y e' with w | w
        · exact B.dj i j hiL hj q y w e
        · have := (B.e j hj).oid e; omega
      · rw [if_neg q']; exact B.dj j j' hj hj' hne y
end
theorem lset_set (L : List (List Nat)) (i : Nat) (a b : List Nat) : (L.set i a).set i b = L.set i b := by simp
end Go.Proofs.Ythnpflkpjimkfaa

/-
  BELOW: the program's searches, and what it returns. Conditions: none.
-/
namespace Go.Proofs.Ythnpflkpjimkfaa
open Go.AM
open Go.Proofs.Try (prog)
set_option linter.all false
set_option maxRecDepth 100000
set_option maxHeartbeats 8000000
structure Bs (h : Nat → Option AObj) (nx : Nat) (T d : Nat) (vs : List AV) (L : List (List Nat)) (lo hiT : Nat) (ids : List Nat) (Dp : MB) (n e : Nat) (q : AV) (iq : Nat) (P : VP) : Prop where
  tb : Tb h T vs L lo hiT
  bt : Bt h d ids (Dp ++ [P.1]) n e
  q : Gl ⟨h, nx⟩ q iq 1 P.2.length (P.2.map natV)
  lt : lo ≤ hiT ∧ hiT ≤ d ∧ (∀ y ∈ ids, hiT ≤ y ∧ y < nx) ∧ hiT ≤ iq ∧ iq ≠ d ∧ iq ∉ ids ∧ d < nx
  s : cf P.1 + P.2.length ≤ 500
end Go.Proofs.Ythnpflkpjimkfaa

/-
  BELOW: what the program returns. Conditions: none.
-/
namespace Go.Proofs.Ythnpflkpjimkfaa
open Go.AM
open Go.Proofs.Try (prog)
set_option linter.all false
set_option maxRecDepth 100000
set_option maxHeartbeats 8000000
end Go.Proofs.Ythnpflkpjimkfaa

/-
  CLASSES: what the program returns. Conditions: none.
-/
namespace Go.Proofs.Ythnpflkpjimkfaa
open Go.AM
open Go.Proofs.Try (prog)
set_option linter.all false
set_option maxRecDepth 100000
set_option maxHeartbeats 8000000
structure Eqv (E : Nat → Nat → Bool) (n : Nat) : Prop where
  rf : ∀ i, i < n → E i i = true
  sy : ∀ i j, i < n → j < n → E i j = true → E j i = true
  tr : ∀ i j k, i < n → j < n → k < n → E i j = true → E j k = true → E i k = true
def clV (S : SM) (c : List Nat) : List AV := c.map fun j => .str (wrd S j)
end Go.Proofs.Ythnpflkpjimkfaa

/-
  CLASSES: all of them. Conditions: none.
-/
namespace Go.Proofs.Ythnpflkpjimkfaa
open Go.AM
open Go.Proofs.Try (prog)
set_option linter.all false
set_option maxRecDepth 100000
set_option maxHeartbeats 8000000
end Go.Proofs.Ythnpflkpjimkfaa

/-
  CLASSES: Left, Right, Classes; lists of lists that are the same. Conditions: none.
-/
namespace Go.Proofs.Ythnpflkpjimkfaa
open Go.AM
open Go.Proofs.Try (prog)
set_option linter.all false
set_option maxRecDepth 100000
set_option maxHeartbeats 8000000
theorem Rch.trans {stp : Nat → List Nat} {i j k : Nat} (h : Rch stp i j) (g : Rch stp j k) : Rch stp i k := by
  induction g with
  | refl => exact h
  | step _ hk ih => exact ih.step hk
section
variable {rows : List (List Int)} {good : List Bool} {k : Nat} {S : SM}
theorem Blw.rf (W : MW rows k S) {lf rt : Bool} {i : Nat} (hi : i < S.1.length) : Blw rows S k lf rt i i := ⟨[], [], okW_nil k, okW_nil k, fun _ => rfl, fun _ => rfl, by simpa using W.self hi⟩
theorem Blw.tr (v : VB rows good k) (W : MW rows k S) {lf rt : Bool} {i j l : Nat} (hi : i < S.1.length) (hj : j < S.1.length) (h : Blw rows S k lf rt i j) (g : Blw rows S k lf rt j l) : Blw rows S k lf rt i l :=
  blw_of_rch v W hi ((rch_of_blw v W hi h).trans (rch_of_blw v W hj g))
end
def IsSS (v : AV) (l : List (List (List UInt8))) : Prop := (v = .nils ∧ l = []) ∨ ∃ ex cs, v = .fsl ex l.length cs ∧ cs.length = l.length ∧ ∀ i (hi : i < l.length), ∃ x, cs[i]? = some x ∧ IsS x l[i]
theorem IsSS.len {v : AV} {l : List (List (List UInt8))} (h : IsSS v l) : lenSl v = some (.int .i64 l.length) := by rcases h with ⟨rfl, rfl⟩ | ⟨_, _, rfl, _⟩ <;> rfl
theorem IsSS.closed {v : AV} {l : List (List (List UInt8))} (h : IsSS v l) : v.closed = true := by rcases h with ⟨rfl, rfl⟩ | ⟨_, _, rfl, _⟩ <;> rfl
theorem IsSS.one {v : AV} {l : List (List (List UInt8))} (h : IsSS v l) : v.one = true := by rcases h with ⟨rfl, rfl⟩ | ⟨_, _, rfl, _⟩ <;> rfl
theorem IsSS.at {v : AV} {l : List (List (List UInt8))} (h : IsSS v l) {i : Nat} (hi : i < l.length) : ∃ cs x, idxSl 1 v (.int .i64 (i : Int)) = some (.fptr cs) ∧ cs.head? = some x ∧ IsS x l[i] := by
  rcases h with ⟨rfl, rfl⟩ | ⟨_, cs, rfl, h1, h2⟩
  · simp at hi
  · obtain ⟨x, hx, hs⟩ := h2 i hi
    exact ⟨cs.drop i, x, by simp [hi], by rw [List.head?_drop]; exact hx, hs⟩
end Go.Proofs.Ythnpflkpjimkfaa

/-
  BELOW: the specification's. Conditions: none.
-/
namespace Go.Proofs.Ythnpflkpjimkfaa
open Go.AM
open Go.Proofs.Try (prog)
set_option linter.all false
set_option maxRecDepth 100000
set_option maxHeartbeats 8000000
end Go.Proofs.Ythnpflkpjimkfaa

/-
  BELOW: what the specification's marks mean. Conditions: none.
-/
namespace Go.Proofs.Ythnpflkpjimkfaa
open Go.AM
open Go.Proofs.Try (prog)
set_option linter.all false
set_option maxRecDepth 100000
set_option maxHeartbeats 8000000
section
variable {rows : List (List Int)} {good : List Bool} {k : Nat} {S : SM}
end
end Go.Proofs.Ythnpflkpjimkfaa

/-
  CLASSES: the specification's, as numbers. Conditions: none.
-/
namespace Go.Proofs.Ythnpflkpjimkfaa
open Go.AM
open Go.Proofs.Try (prog)
set_option linter.all false
set_option maxRecDepth 100000
set_option maxHeartbeats 8000000
def natL (c : List Nat) : List AV := c.map natV
@[simp] theorem natL_len (c : List Nat) : (natL c).length = c.length := by simp [natL]
theorem natL_closed (c : List Nat) : closedL (natL c) = true := by
  induction c with
  | nil => rfl
  | cons a c ih => simp only [natL, List.map_cons, closedL] at ih ⊢; rw [ih]; rfl
end Go.Proofs.Ythnpflkpjimkfaa

/-
  CLASSES BY THEIR WORDS: the specification's. Conditions: none.
-/
namespace Go.Proofs.Ythnpflkpjimkfaa
open Go.AM
open Go.Proofs.Try (prog)
set_option linter.all false
set_option maxRecDepth 100000
set_option maxHeartbeats 8000000
@[simp] theorem clV_len (S : SM) (c : List Nat) : (clV S c).length = c.length := by simp [clV]
end Go.Proofs.Ythnpflkpjimkfaa

/-
  POWERS THAT COME AGAIN: plain law. Conditions: none.
-/
namespace Go.Proofs.Ythnpflkpjimkfaa
set_option linter.all false
set_option maxRecDepth 100000
theorem nd_len : ∀ (N : Nat) (l : List Nat), l.Nodup → (∀ x ∈ l, x < N) → l.length ≤ N
  | 0, l, _, h => by
    cases l with
    | nil => simp
    | cons a l => have := h a (by simp); omega
  | N + 1, l, d, h => by
    have h1 := nd_len N (l.erase N) (d.erase N) (fun x hx => by
      have := (List.Nodup.mem_erase_iff d).1 hx
      have := h x this.2
      omega)
    have : l.length ≤ (l.erase N).length + 1 := by
      rw [List.length_erase]; split <;> omega
    omega
structure IsPer (f : Nat → Nat) (N p : Nat) : Prop where
  ps : 1 ≤ p
  eq : f (N + p) = f N
  mn : ∀ q, 1 ≤ q → q < p → f (N + q) ≠ f N
theorem IsPer.uniq {f : Nat → Nat} {N p q : Nat} (h : IsPer f N p) (g : IsPer f N q) : p = q := by
  rcases Nat.lt_trichotomy p q with c | c | c
  · exact absurd h.eq (g.mn p h.ps c)
  · exact c
  · exact absurd g.eq (h.mn q g.ps c)
section
variable {f : Nat → Nat} (H : ∀ a b, f a = f b → f (a + 1) = f (b + 1))
include H
end
end Go.Proofs.Ythnpflkpjimkfaa

/-
  STATES NUMBERED ANEW, AND DOUBLED: plain law. Conditions: none.
-/
namespace Go.Proofs.Ythnpflkpjimkfaa
open Go.AM
open Go.Proofs.Try (prog)
set_option linter.all false
set_option maxRecDepth 100000
set_option maxHeartbeats 8000000
def nbS (n y s : Nat) : Nat := if s = 0 then 0 else (s - 1 + y) % (n - 1) + 1
theorem nbS_lt {n y s : Nat} (hs : s < n) : nbS n y s < n := by
  unfold nbS
  split
  · omega
  · have := Nat.mod_lt (s - 1 + y) (show 0 < n - 1 by omega)
    omega
theorem nbS_inj {n y s t : Nat} (hs : s < n) (ht : t < n) (h : nbS n y s = nbS n y t) : s = t := by
  unfold nbS at h
  by_cases e1 : s = 0
  · by_cases e2 : t = 0
    · omega
    · rw [if_pos e1, if_neg e2] at h; omega
  · by_cases e2 : t = 0
    · rw [if_neg e1, if_pos e2] at h; omega
    · rw [if_neg e1, if_neg e2] at h
      have h3 : (s - 1 + y) % (n - 1) = (t - 1 + y) % (n - 1) := by omega
      have a := Nat.div_add_mod (s - 1 + y) (n - 1)
      have b := Nat.div_add_mod (t - 1 + y) (n - 1)
      rw [h3] at a
      by_cases q : (s - 1 + y) / (n - 1) = (t - 1 + y) / (n - 1)
      · rw [q] at a; omega
      · exfalso
        rcases Nat.lt_or_gt_of_ne q with c | c
        · have : (n - 1) * ((s - 1 + y) / (n - 1)) + (n - 1) ≤ (n - 1) * ((t - 1 + y) / (n - 1)) := by rw [← Nat.mul_succ]; exact Nat.mul_le_mul_left _ c
          omega
        · have : (n - 1) * ((t - 1 + y) / (n - 1)) + (n - 1) ≤ (n - 1) * ((s - 1 + y) / (n - 1)) := by rw [← Nat.mul_succ]; exact Nat.mul_le_mul_left _ c
          omega
theorem nbS_sur {n y q : Nat} (hq : q < n) : ∃ s, s < n ∧ nbS n y s = q := by
  refine Classical.byContradiction fun h => ?_
  have hno : ∀ s, s < n → nbS n y s ≠ q := fun s hs e => h ⟨s, hs, e⟩
  have := nd_len n (q :: (List.range n).map (nbS n y)) (by
    rw [List.nodup_cons]
    refine ⟨fun hm => ?_, ?_⟩
    · obtain ⟨s, hs, e⟩ := List.mem_map.1 hm
      exact hno s (by simpa using hs) e
    · rw [List.Nodup, List.pairwise_map]
      refine List.Pairwise.imp_of_mem ?_ (List.pairwise_lt_range (n := n))
      intro a b ha hb hab e
      have := nbS_inj (by simpa using ha) (by simpa using hb) e
      omega) (fun x hx => by
    rcases List.mem_cons.1 hx with rfl | hx
    · exact hq
    · obtain ⟨s, hs, rfl⟩ := List.mem_map.1 hx
      exact nbS_lt (by simpa using hs))
  simp at this
  omega
def phS (n y q : Nat) : Nat := ((List.range n).find? fun s => nbS n y s == q).getD 0
theorem phS_of {n y s : Nat} (hs : s < n) : phS n y (nbS n y s) = s := by
  unfold phS
  cases e : (List.range n).find? fun t => nbS n y t == nbS n y s with
  | none =>
    have := List.find?_eq_none.1 e s (by simpa using hs)
    simp at this
  | some t =>
    have h1 := List.find?_some e
    have h2 := List.mem_of_find?_eq_some e
    exact nbS_inj (by simpa using h2) hs (by simpa using h1)
theorem phS_lt {n y q : Nat} (hq : q < n) : phS n y q < n := by
  obtain ⟨s, hs, rfl⟩ := nbS_sur (y := y) hq
  rw [phS_of hs]; exact hs
theorem nb_ph {n y q : Nat} (hq : q < n) : nbS n y (phS n y q) = q := by
  obtain ⟨s, hs, rfl⟩ := nbS_sur (y := y) hq
  rw [phS_of hs]
theorem xl_map {rows rows' : List (List Int)} {good good' : List Bool} {k n' : Nat} (φ : Nat → Nat) (h1 : ∀ q, q < n' → ∀ a, a < k → nx rows' q a < n' ∧ φ (nx rows' q a) = nx rows (φ q) a) (h2 : ∀ q, q < n' → bnth good' q = bnth good (φ q)) : ∀ (w : List Nat) (q : Nat), q < n' → (∀ a ∈ w, a < k) → bnth good (gow rows (φ q) w) = bnth good' (gow rows' q w)
  | [], q, hq, _ => (h2 q hq).symm
  | a :: w, q, hq, hw => by
    obtain ⟨g1, g2⟩ := h1 q hq a (hw a (by simp))
    have := xl_map φ h1 h2 w (nx rows' q a) g1 (fun b hb => hw b (by simp [hb]))
    rw [g2] at this
    exact this
def rwL (L : List (List Nat)) : List (List Int) := L.map fun l => l.map fun x => ((x : Nat) : Int)
theorem rwL_at {L : List (List Nat)} {q : Nat} (hq : q < L.length) : cth (rwL L) q = (lat L q).map fun x => ((x : Nat) : Int) := by
  simp [cth, rwL, lat, hq, List.getD_eq_getElem?_getD]
theorem rwL_nx {L : List (List Nat)} {q a : Nat} (hq : q < L.length) (ha : a < (lat L q).length) : nx (rwL L) q a = (lat L q).getD a 0 := by
  rw [nx, rwL_at hq]
  simp [nth, ha, List.getD_eq_getElem?_getD]
theorem rwL_vb {L : List (List Nat)} {g : List Bool} {k : Nat} (k1 : 1 ≤ k) (k3 : k ≤ 3) (l1 : 1 ≤ L.length) (l6 : L.length ≤ 6) (gl : g.length = L.length) (hr : ∀ q, q < L.length → (lat L q).length = k ∧ ∀ a, a < k → (lat L q).getD a 0 < L.length) : VB (rwL L) g k := by
  have hl : (rwL L).length = L.length := by simp [rwL]
  refine ⟨by omega, by omega, by omega, k1, k3, fun i hi => ?_, fun i j hi hj => ?_⟩
  · rw [hl] at hi
    rw [rwL_at hi]; simp [(hr i hi).1]
  · rw [hl] at hi
    obtain ⟨h1, h2⟩ := hr i hi
    have e : nth (cth (rwL L) i) j = ((lat L i).getD j 0 : Nat) := by
      rw [rwL_at hi]; simp [nth, h1, hj, List.getD_eq_getElem?_getD]
    have := h2 j hj
    rw [e, hl]; omega
section
variable {rows : List (List Int)} {good : List Bool} {k y : Nat}
structure Ren (rows : List (List Int)) (good : List Bool) (k y : Nat) (L : List (List Nat)) (g : List Bool) : Prop where
  l : L.length = rows.length
  gl : g.length = rows.length
  r : ∀ s, s < rows.length → lat L (nbS rows.length y s) = (List.range k).map fun a => nbS rows.length y (nx rows s a)
  g : ∀ s, s < rows.length → bnth g (nbS rows.length y s) = bnth good s
theorem Ren.row {L : List (List Nat)} {g : List Bool} (R : Ren rows good k y L g) {q : Nat} (hq : q < rows.length) : lat L q = (List.range k).map fun a => nbS rows.length y (nx rows (phS rows.length y q) a) := by
  have := R.r _ (phS_lt (y := y) hq)
  rw [nb_ph hq] at this
  exact this
theorem ren_ok (v : VB rows good k) {L : List (List Nat)} {g : List Bool} (R : Ren rows good k y L g) : VB (rwL L) g k ∧ Xl rows (rwL L) good g k 0 0 := by
  have n1 := v.n1
  have n6 := v.n6
  have hl := R.l
  have hat : ∀ q, q < rows.length → ∀ a, a < k → (lat L q).getD a 0 = nbS rows.length y (nx rows (phS rows.length y q) a) := fun q hq a ha => by
    rw [R.row hq]; simp [ha, List.getD_eq_getElem?_getD]
  have hlen : ∀ q, q < rows.length → (lat L q).length = k := fun q hq => by rw [R.row hq]; simp
  refine ⟨rwL_vb v.k1 v.k3 (by omega) (by omega) (by rw [R.gl, hl]) (fun q hq => ?_), ?_⟩
  · rw [hl] at hq
    refine ⟨hlen q hq, fun a ha => ?_⟩
    rw [hat q hq a ha, hl]
    exact nbS_lt (nx_lt v (phS_lt hq) ha).1
  · have h0 : phS rows.length y 0 = 0 := by
      have := phS_of (n := rows.length) (y := y) (s := 0) (by omega)
      exact this
    have := xl_map (rows := rows) (rows' := rwL L) (good := good) (good' := g) (k := k) (n' := rows.length) (phS rows.length y) (fun q hq a ha => by
      have e : nx (rwL L) q a = nbS rows.length y (nx rows (phS rows.length y q) a) := by
        rw [rwL_nx (by omega) (by rw [hlen q hq]; exact ha), hat q hq a ha]
      have hlt := (nx_lt v (phS_lt (y := y) hq) ha).1
      exact ⟨by rw [e]; exact nbS_lt hlt, by rw [e, phS_of hlt]⟩) (fun q hq => by
      have := R.g _ (phS_lt (y := y) hq)
      rw [nb_ph hq] at this
      exact this)
    intro w hw
    have h := this w 0 (by omega) hw
    rw [h0] at h
    exact h
def twE (n s0 t a e : Nat) : Nat := if e = s0 ∧ (t + a) % 2 = 0 then n else e
structure Twn (L : List (List Nat)) (g : List Bool) (n k s0 : Nat) (L' : List (List Nat)) (g' : List Bool) : Prop where
  l : L'.length = n + 1
  g : g' = g ++ [bnth g s0]
  r : ∀ t, t < n → lat L' t = (List.range k).map fun a => twE n s0 t a ((lat L t).getD a 0)
  tw : lat L' n = lat L s0
theorem twn_ok (v : VB rows good k) {L L' : List (List Nat)} {g g' : List Bool} (R : Ren rows good k y L g) {s0 : Nat} (hs : s0 < rows.length) (h6 : rows.length < 6) (T : Twn L g rows.length k s0 L' g') : VB (rwL L') g' k ∧ Xl rows (rwL L') good g' k 0 0 := by
  have n1 := v.n1
  have hl := R.l
  have hat : ∀ q, q < rows.length → ∀ a, a < k → (lat L q).getD a 0 = nbS rows.length y (nx rows (phS rows.length y q) a) := fun q hq a ha => by
    rw [R.row hq]; simp [ha, List.getD_eq_getElem?_getD]
  have hlen : ∀ q, q < rows.length → (lat L q).length = k := fun q hq => by rw [R.row hq]; simp
  have hlen' : ∀ q, q < rows.length + 1 → (lat L' q).length = k := fun q hq => by
    by_cases e : q = rows.length
    · rw [e, T.tw]; exact hlen s0 hs
    · rw [T.r q (by omega)]; simp
  have hnx : ∀ q, q < rows.length + 1 → ∀ a, a < k → (lat L' q).getD a 0 < rows.length + 1 ∧ (if (lat L' q).getD a 0 = rows.length then phS rows.length y s0 else phS rows.length y ((lat L' q).getD a 0)) = nx rows (if q = rows.length then phS rows.length y s0 else phS rows.length y q) a := by
    intro q hq a ha
    by_cases e : q = rows.length
    · rw [if_pos e, e, T.tw, hat s0 hs a ha]
      have hlt := (nx_lt v (phS_lt (y := y) hs) ha).1
      have := nbS_lt (y := y) hlt
      rw [if_neg (by omega), phS_of hlt]
      exact ⟨by omega, rfl⟩
    · have hq' : q < rows.length := by omega
      have hlt := (nx_lt v (phS_lt (y := y) hq') ha).1
      have hnl := nbS_lt (y := y) hlt
      have ee : (lat L' q).getD a 0 = twE rows.length s0 q a (nbS rows.length y (nx rows (phS rows.length y q) a)) := by
        rw [T.r q hq']; simp [ha, List.getD_eq_getElem?_getD]
        have := hat q hq' a ha
        simp [List.getD_eq_getElem?_getD] at this
        rw [this]
      rw [if_neg e, ee, twE]
      by_cases c : nbS rows.length y (nx rows (phS rows.length y q) a) = s0 ∧ (q + a) % 2 = 0
      · rw [if_pos c, if_pos rfl]
        refine ⟨by omega, ?_⟩
        rw [← c.1, phS_of hlt]
      · rw [if_neg c, if_neg (by omega), phS_of hlt]
        exact ⟨by omega, rfl⟩
  refine ⟨rwL_vb v.k1 v.k3 (by rw [T.l]; omega) (by rw [T.l]; omega) (by rw [T.g, T.l]; simp [R.gl]) (fun q hq => ?_), ?_⟩
  · rw [T.l] at hq
    exact ⟨hlen' q hq, fun a ha => by rw [T.l]; exact (hnx q hq a ha).1⟩
  · have h0 : phS rows.length y 0 = 0 := phS_of (n := rows.length) (y := y) (s := 0) (by omega)
    have := xl_map (rows := rows) (rows' := rwL L') (good := good) (good' := g') (k := k) (n' := rows.length + 1) (fun q => if q = rows.length then phS rows.length y s0 else phS rows.length y q) (fun q hq a ha => by
      have e : nx (rwL L') q a = (lat L' q).getD a 0 := rwL_nx (by rw [T.l]; exact hq) (by rw [hlen' q hq]; exact ha)
      rw [e]
      exact hnx q hq a ha) (fun q hq => by
      have gs : ∀ s, s < rows.length → bnth g s = bnth good (phS rows.length y s) := fun s hs => by
        have := R.g _ (phS_lt (y := y) hs)
        rw [nb_ph hs] at this
        exact this
      rw [T.g]
      by_cases e : q = rows.length
      · rw [if_pos e, ← gs s0 hs, e, ← R.gl]
        simp [bnth, List.getD_eq_getElem?_getD]
      · rw [if_neg e, ← gs q (by omega)]
        have : q < g.length := by rw [R.gl]; omega
        simp [bnth, List.getD_eq_getElem?_getD, List.getElem?_append_left this])
    intro w hw
    have h := this w 0 (by omega) hw
    rw [if_neg (by omega), h0] at h
    exact h
end
end Go.Proofs.Ythnpflkpjimkfaa

/-
  TABLES IN MEMORY: an element is written; the whole becomes a value. Conditions: none.
-/
namespace Go.Proofs.Ythnpflkpjimkfaa
open Go.AM
open Go.Proofs.Try (prog)
set_option linter.all false
set_option maxRecDepth 100000
set_option maxHeartbeats 8000000
theorem upd_self {h : Nat → Option AObj} {i : Nat} {o : Option AObj} (e : h i = o) : upd h i o = h := by
  funext j
  by_cases c : j = i
  · subst c; simp [upd, e]
  · exact updNe c
section
variable {h : Nat → Option AObj} {T : Nat} {vs : List AV} {L : List (List Nat)} {lo hi : Nat}
theorem Tb.rowv (B : Tb h T vs L lo hi) {i : Nat} (hiL : i < L.length) (hp : 0 < (lat L i).length) : ∃ R, vat vs i = .sl R 1 0 (lat L i).length (lat L i).length ∧ h R = some (.cells (natL (lat L i))) ∧ lo ≤ R ∧ R < hi := by
  obtain ⟨R, h1, h2, h3, h4⟩ := (B.e i hiL).sl ((B.e i hiL).nn (by intro e; have := congrArg List.length e; simp at this; rw [this] at hp; simp at hp))
  exact ⟨R, by simpa using h1, h2, h3, h4⟩
theorem Tb.put (B : Tb h T vs L lo hi) (hl : lo ≤ hi) {i a : Nat} (hiL : i < L.length) (ha : a < (lat L i).length) (x : Nat) {R : Nat} (hR : vat vs i = .sl R 1 0 (lat L i).length (lat L i).length) :
    Tb (upd h R (some (.cells (natL ((lat L i).set a x))))) T vs (L.set i ((lat L i).set a x)) lo hi := by
  have hT := B.t
  obtain ⟨R', e1, e2, e3, e4⟩ := B.rowv hiL (by omega)
  rw [hR] at e1
  have eR : R' = R := by injection e1 with e; exact e.symm
  subst eR
  refine ⟨by rw [updNe (by omega), B.o], by simp [B.l], fun j hj => ?_, fun j j' hj hj' => B.dj j j' (by simpa using hj) (by simpa using hj'), hT⟩
  have hj : j < L.length := by simpa using hj
  rw [lat_set hiL]
  by_cases q : i = j
  · subst q
    rw [if_pos rfl, hR]
    exact .inr ⟨R', by simp, by simp [upd, natL], e3, e4⟩
  · rw [if_neg q]
    refine (B.e j hj).fr (fun z z1 z2 ze => updNe (fun e => ?_)) (Nat.le_refl _)
    subst e
    exact B.dj i j hiL hj q z (by rw [hR]; rfl) ze
theorem frzD_flat {v : AV} (hv : match v with | .ptr .. => False | .sl .. => False | _ => True) (m : Mem) : ∀ d, frzD d v m = some (v, m)
  | 0 => by cases v <;> first | rfl | exact hv.elim
  | d + 1 => by cases v <;> first | rfl | exact hv.elim
theorem frzC_flat {f : AV → Mem → Option (AV × Mem)} {id top : Nat} {xs : List AV} {nx : Nat} (ho : h id = some (.cells xs)) (hl : xs.length = top) (hf : ∀ v ∈ xs, v.one = true ∧ ∀ m, f v m = some (v, m)) : ∀ (c j : Nat), j + c = top → frzC f id top c j ⟨h, nx⟩ = some ⟨h, nx⟩
  | 0, _, _ => rfl
  | c + 1, j, e => by
    have hj : j < xs.length := by omega
    have hx := List.getElem_mem hj
    obtain ⟨h1, h2⟩ := hf _ hx
    have es : xs.set j xs[j] = xs := by simp
    rw [frzC]
    simp only [ho, hl, beq_self_eq_true, cond_true, List.getElem?_eq_getElem hj, Option.bind_some, h2, h1, Bool.and_self, es]
    rw [show (Mem.set ⟨h, nx⟩ id (some (.cells xs)) : Mem) = ⟨h, nx⟩ by simp only [Mem.set]; rw [upd_self ho]]
    exact frzC_flat ho hl hf c (j + 1) (by omega)
theorem frzD_row {R : Nat} {xs : List AV} {nx d : Nat} (ho : h R = some (.cells xs)) (hf : ∀ v ∈ xs, v.one = true ∧ ∀ m, frzD d v m = some (v, m)) (hc : closedL xs = true) : frzD (d + 1) (.sl R 1 0 xs.length xs.length) ⟨h, nx⟩ = some (.fsl false xs.length xs, ⟨upd h R none, nx⟩) := by
  rw [frzD.eq_def]
  simp only []
  rw [frzC_flat ho rfl hf xs.length 0 (by omega)]
  simp only [Option.bind_some, frzV, ho, hc, beq_self_eq_true, Bool.true_and, Nat.zero_add, Nat.mul_one, List.drop_zero, List.take_length, Mem.set]
  simp
def rwV (l : List Nat) : AV := .fsl false l.length (natL l)
theorem frzD_rows {nx m0 : Nat} : ∀ (c j : Nat) (h : Nat → Option AObj) (vs : List AV), j + c = L.length → L.length = m0 → h T = some (.cells (((L.take j).map rwV) ++ vs.drop j)) → vs.length = L.length → lo ≤ hi → T < lo →
    (∀ i, j ≤ i → i < L.length → ∃ R, vat vs i = .sl R 1 0 (lat L i).length (lat L i).length ∧ h R = some (.cells (natL (lat L i))) ∧ lo ≤ R ∧ R < hi) →
    (∀ i i', i < L.length → i' < L.length → i ≠ i' → ∀ y, objId (vat vs i) = some y → objId (vat vs i') ≠ some y) →
    ∃ h', frzC (frzD 1) T m0 c j ⟨h, nx⟩ = some ⟨h', nx⟩ ∧ h' T = some (.cells (L.map rwV)) ∧ ∀ y, y < lo → y ≠ T → h' y = h y
  | 0, j, h, vs, e, em, ho, hl, hlo, hT, hr, dj => by
    have ej : j = L.length := by omega
    subst ej
    refine ⟨h, rfl, ?_, fun _ _ _ => rfl⟩
    rw [ho, List.take_length, List.drop_of_length_le (by omega), List.append_nil]
  | c + 1, j, h, vs, e, em, ho, hl, hlo, hT, hr, dj => by
    have hj : j < L.length := by omega
    have hjv : j < vs.length := by omega
    obtain ⟨R, r1, r2, r3, r4⟩ := hr j (Nat.le_refl _) hj
    have hlen : (((L.take j).map rwV) ++ vs.drop j).length = m0 := by simp [hl]; omega
    have hv : (((L.take j).map rwV) ++ vs.drop j)[j]? = some (vat vs j) := by
      rw [List.getElem?_append_right (by simp; omega)]
      have : j - ((L.take j).map rwV).length = 0 := by simp; omega
      rw [this, List.getElem?_drop]
      simp [vat, hjv, List.getD_eq_getElem?_getD]
    have hrow := frzD_row (h := h) (R := R) (xs := natL (lat L j)) (nx := nx) (d := 0) r2 (fun v hv => by
      simp only [natL, List.mem_map] at hv
      obtain ⟨x, _, rfl⟩ := hv
      exact ⟨rfl, fun m => frzD_flat trivial m 0⟩) (natL_closed _)
    rw [natL_len] at hrow
    rw [r1] at hv
    have hset : (((L.take j).map rwV) ++ vs.drop j).set j (rwV (lat L j)) = ((L.take (j + 1)).map rwV) ++ vs.drop (j + 1) := by
      have e1 : ((L.take j).map rwV).length = j := by simp; omega
      rw [List.set_append_right _ _ (by omega), e1, Nat.sub_self, List.drop_eq_getElem_cons hjv, List.set_cons_zero, List.take_add_one, List.getElem?_eq_getElem hj, List.map_append]
      have : lat L j = L[j] := by simp [lat, hj, List.getD_eq_getElem?_getD]
      rw [this]; simp
    obtain ⟨h', g1, g2, g3⟩ := frzD_rows (nx := nx) c (j + 1) (upd (upd h R none) T (some (.cells (((L.take (j + 1)).map rwV) ++ vs.drop (j + 1))))) vs (by omega) em (by simp [upd]) hl hlo hT (fun i h1 h2 => by
      obtain ⟨R', q1, q2, q3, q4⟩ := hr i (by omega) h2
      refine ⟨R', q1, ?_, q3, q4⟩
      rw [updNe (by omega), updNe (fun e => ?_), q2]
      subst e
      exact dj j i hj h2 (by omega) R' (by rw [r1]; rfl) (by rw [q1]; rfl)) dj
    refine ⟨h', ?_, g2, fun y y1 y2 => by rw [g3 y y1 y2, updNe y2, updNe (by omega)]⟩
    rw [frzC]
    simp only [ho, hlen, beq_self_eq_true, cond_true, hv, Option.bind_some, hrow]
    rw [updNe (show T ≠ R by omega), ho]
    simp only [hlen, beq_self_eq_true, Bool.true_and, AV.one, cond_true]
    have : (AV.fsl false (lat L j).length (natL (lat L j))) = rwV (lat L j) := rfl
    rw [this, hset]
    exact g1
theorem frzD_tab (B : Tb h T vs L lo hi) (hl : lo ≤ hi) (hp : ∀ i, i < L.length → 0 < (lat L i).length) (nx : Nat) : ∃ h', frzD 2 (.sl T 1 0 L.length L.length) ⟨h, nx⟩ = some (.fsl false L.length (L.map rwV), ⟨h', nx⟩) ∧ ∀ y, y < lo → y ≠ T → h' y = h y := by
  obtain ⟨h', g1, g2, g3⟩ := frzD_rows (L := L) (T := T) (lo := lo) (hi := hi) (nx := nx) L.length 0 h vs (by omega) rfl (by simpa using B.o) B.l hl B.t (fun i _ h2 => B.rowv h2 (hp i h2)) B.dj
  have hc : closedL (L.map rwV) = true := by
    have : ∀ l : List (List Nat), closedL (l.map rwV) = true := by
      intro l
      induction l with
      | nil => rfl
      | cons a l ih => simp only [List.map_cons, closedL, ih]; rfl
    exact this L
  refine ⟨upd h' T none, ?_, fun y y1 y2 => by rw [updNe y2, g3 y y1 y2]⟩
  rw [frzD.eq_def]
  simp only [g1, Option.bind_some, frzV, g2, List.length_map, hc, beq_self_eq_true, Bool.true_and, Nat.zero_add, Nat.mul_one, List.drop_zero, Mem.set]
  have : (L.map rwV).take L.length = L.map rwV := List.take_of_length_le (by simp)
  simp [this]
end
theorem frz_brand {h : Nat → Option AObj} {o T G : Nat} {vs : List AV} {L : List (List Nat)} {g : List Bool} {lo hi : Nat} (B : Tb h T vs L lo hi) (hl : lo ≤ hi) (hp : ∀ i, i < L.length → 0 < (lat L i).length) (ho : h o = some (.cells [.sl T 1 0 L.length L.length, .sl G 1 0 g.length g.length])) (hG : h G = some (.cells (bls g))) (oT : o ≠ T) (oG : o ≠ G) (GT : G ≠ T) (ol : o < lo) (Gl : G < lo) (nx : Nat) :
    ∃ m', frzD 3 (.ptr o 0 2) ⟨h, nx⟩ = some (.fptr [.fsl false L.length (L.map rwV), .fsl false g.length (bls g)], m') ∧ m'.nx = nx := by
  obtain ⟨h1, g1, g2⟩ := frzD_tab B hl hp nx
  have ho1 : h1 o = some (.cells [.sl T 1 0 L.length L.length, .sl G 1 0 g.length g.length]) := by rw [g2 o ol oT, ho]
  have hG1 : (upd h1 o (some (.cells [.fsl false L.length (L.map rwV), .sl G 1 0 g.length g.length]))) G = some (.cells (bls g)) := by rw [updNe (Ne.symm oG), g2 G Gl GT, hG]
  have hrow := frzD_row (h := upd h1 o (some (.cells [.fsl false L.length (L.map rwV), .sl G 1 0 g.length g.length]))) (R := G) (xs := bls g) (nx := nx) (d := 1) hG1 (fun v hv => by
    simp only [bls, List.mem_map] at hv
    obtain ⟨x, _, rfl⟩ := hv
    exact ⟨rfl, fun m => frzD_flat trivial m 1⟩) (bls_closed _)
  rw [bls_len] at hrow
  have ho2 : (upd (upd h1 o (some (.cells [.fsl false L.length (L.map rwV), .sl G 1 0 g.length g.length]))) G none) o = some (.cells [.fsl false L.length (L.map rwV), .sl G 1 0 g.length g.length]) := by rw [updNe oG]; simp [upd]
  refine ⟨⟨upd (upd (upd (upd h1 o (some (.cells [.fsl false L.length (L.map rwV), .sl G 1 0 g.length g.length]))) G none) o (some (.cells [.fsl false L.length (L.map rwV), .fsl false g.length (bls g)]))) o none, nx⟩, ?_, rfl⟩
  rw [frzD.eq_def]
  simp only [frzC, ho, List.length_cons, List.length_nil, Nat.zero_add, Nat.reduceAdd, beq_self_eq_true, cond_true, List.getElem?_cons_zero, Option.bind_some, g1, ho1, AV.one, Bool.and_self, List.set_cons_zero, Mem.set, List.getElem?_cons_succ, List.set_cons_succ]
  rw [show (upd h1 o (some (AObj.cells [AV.fsl false L.length (List.map rwV L), AV.sl G 1 0 g.length g.length]))) o = some (.cells [.fsl false L.length (L.map rwV), .sl G 1 0 g.length g.length]) by simp [upd]]
  simp only [List.length_cons, List.length_nil, Nat.zero_add, Nat.reduceAdd, beq_self_eq_true, cond_true, List.getElem?_cons_succ, List.getElem?_cons_zero, Option.bind_some, hrow, ho2, AV.one, Bool.and_self, List.set_cons_succ, List.set_cons_zero]
  simp only [frzV]
  rw [show (upd (upd (upd h1 o (some (AObj.cells [AV.fsl false L.length (List.map rwV L), AV.sl G 1 0 g.length g.length]))) G none) o (some (AObj.cells [AV.fsl false L.length (List.map rwV L), AV.fsl false g.length (bls g)]))) o = some (.cells [AV.fsl false L.length (List.map rwV L), AV.fsl false g.length (bls g)]) by simp [upd]]
  simp only [List.length_cons, List.length_nil, Nat.zero_add, Nat.reduceAdd, beq_self_eq_true, cond_true, closedL, AV.closed, Bool.and_self, List.drop_zero, Mem.set]
end Go.Proofs.Ythnpflkpjimkfaa
