/-
  BrandSmallest: the law answers true. Conditions: none.
-/
import Derived.Test.YthnpflkpjimkfaaK03
import Derived.Test.YthnpflkpjimkfaaK04
set_option linter.all false
namespace Go.Proofs.Ythnpflkpjimkfaa
open Go.AM
open Go.Proofs.Try (prog)
set_option linter.all false
set_option maxRecDepth 100000
set_option maxHeartbeats 8000000
theorem smallest26_spec {nv gv : AV} {ps : List AV} {rows : List (List Int)} {good : List Bool} (hn : IsRows nv ps rows) (hg : IsB gv good) (hl : rows.length ≤ 1000) (hgl : good.length ≤ 1000) (hr : ∀ i, i < rows.length → (cth rows i).length ≤ 1000) (m : Mem) :
    denC prog ann 26 [.agg [nv, gv]] m = some (if validB rows good = true then .tup [.agg [nvM rows good (cth rows 0).length, gvM rows good (cth rows 0).length], .int .i64 0] else .tup [.agg [.nils, .nils], .int .i64 1], m) := by
  have h1 := fun m => valid_spec hn hg hl hgl hr m
  rw [brand_Smallest.call_eq _ _ (by simp [hn.closed, hg.closed])]
  cases c0 : validB rows good with
  | false =>
    rw [c0] at h1
    simp [hn.one, hg.one, hn.closed, hg.closed, h1]
    done
  | true =>
    rw [c0] at h1
    have v := VB.of c0
    have h2 := fun m => smallest_spec hn hg v m
    rw [repL_eq v, resV_eq] at h2
    have o1 := (isRows_M rows good (cth rows 0).length).one
    have o2 := (isB_M rows good (cth rows 0).length).one
    have c1 := (isRows_M rows good (cth rows 0).length).closed
    have c2 := (isB_M rows good (cth rows 0).length).closed
    have d1 := fun hp => (isRows_M rows good (cth rows 0).length).deep hp 3
    have d2 := fun hp => (isB_M rows good (cth rows 0).length).deep hp 3
    simp [hn.one, hg.one, hn.closed, hg.closed, h1, h2, o1, o2, d1, d2]
    done
end Go.Proofs.Ythnpflkpjimkfaa

/-
  BrandProduct: the law answers true. Conditions: none.
-/
namespace Go.Proofs.Ythnpflkpjimkfaa
open Go.AM
open Go.Proofs.Try (prog)
set_option linter.all false
set_option maxRecDepth 100000
set_option maxHeartbeats 8000000
theorem wordE_ok {k : Nat} {s : List UInt8} (h : s.length ≤ 200) (g : okW k s) : wordE k s = 0 := by
  unfold wordE
  rw [if_neg (by omega), if_pos ((letF_iff k s).2 g)]
end Go.Proofs.Ythnpflkpjimkfaa

/-
  BrandSame: the law answers true. Conditions: none.
-/
namespace Go.Proofs.Ythnpflkpjimkfaa
open Go.AM
open Go.Proofs.Try (prog)
set_option linter.all false
set_option maxRecDepth 100000
set_option maxHeartbeats 8000000
theorem sa_t6 {x2 x7 : AV} {n k s0 : Nat} (n6 : n ≤ 6) (k3 : k ≤ 3) {o T G lo : Nat} (lO : o < lo) (lT : T < lo) (lG : G < lo) (dTo : T ≠ o) {L0 : List (List Nat)} (hL0 : ∀ t, t < n → (lat L0 t).length = k) {r : Option Res} {nx0 : Nat} (hlo : lo ≤ nx0) {vs : List AV} {g : List Bool}
    (hk : ∀ h' L', Bm h' o T G vs L' g lo nx0 → L'.length = n + 1 → (∀ t, t < n → lat L' t = rwT n s0 t k (lat L0 t)) → lat L' n = lat L0 n → l07_BrandSame.L6 x2 x7 (.int .i64 n) (.ptr o 0 2) (.int .i64 s0) (.int .i64 n) ⟨h', nx0⟩ KA6 = r) :
    ∀ (c t : Nat) (h : Nat → Option AObj) (L : List (List Nat)), t + c = n → Bm h o T G vs L g lo nx0 → L.length = n + 1 → (∀ u, u < n → lat L u = if u < t then rwT n s0 u k (lat L0 u) else lat L0 u) → lat L n = lat L0 n →
    l07_BrandSame.L6 x2 x7 (.int .i64 n) (.ptr o 0 2) (.int .i64 s0) (.int .i64 t) ⟨h, nx0⟩ KA6 = r := by
  intro c
  induction c with
  | zero =>
    intro t h L h1 M hL hr hn
    have e : t = n := by omega
    subst e
    exact hk h L M hL (fun u hu => by rw [hr u hu, if_pos hu]) hn
  | succ c ih =>
    intro t h L h1 M hL hr hn
    have ht : t < n := by omega
    have hwt : IntKind.wrap .i64 ((t : Int) + 1) = (t : Int) + 1 := wrap_id (by omega) (by omega)
    have hrt := hr t ht
    rw [if_neg (by omega)] at hrt
    have st := sa_t8 (x2 := x2) (x7 := x7) n6 k3 lO lT lG dTo (hL0 t ht) ht (s0 := s0) (r := r) (nx0 := nx0) hlo (vs := vs) (g := g) k 0 h L (by omega) M hL (by rw [rwT_0, hrt]) (fun h' M' => by
      have hls : (L.set t (rwT n s0 t k (lat L0 t))).length = n + 1 := by simp [hL]
      have st2 := ih (t + 1) h' (L.set t (rwT n s0 t k (lat L0 t))) (by omega) M' hls (fun u hu => by
        rw [lat_set (by omega)]
        by_cases e : t = u
        · subst e; rw [if_pos rfl, if_pos (by omega)]
        · rw [if_neg e, hr u hu]
          by_cases c : u < t
          · rw [if_pos c, if_pos (by omega)]
          · rw [if_neg c, if_neg (by omega)]) (by rw [lat_set (by omega), if_neg (by omega), hn])
      simp only [Int.natCast_add, Int.cast_ofNat_Int] at st2
      have ho := M'.o
      rw [hls] at ho
      have htL : t < (L.set t (rwT n s0 t k (lat L0 t))).length := by omega
      have hlen : (lat (L.set t (rwT n s0 t k (lat L0 t))) t).length = k := by rw [lat_set (by omega), if_pos rfl, rwT_len, hL0 t ht]
      have hld := M'.b.ld htL
      rw [hls] at hld
      have hll := (M'.b.e t htL).len
      rw [List.length_map, hlen] at hll
      have ho1 := (M'.b.e t htL).one
      rw [l07_BrandSame.L8_eq]
      simp [KA8, ho, hls, ht, hld, hll, ho1, show t < n + 1 by omega, hwt]
      exact st2)
    simp only [Int.ofNat_zero, Int.cast_ofNat_Int, KA8] at st
    rw [l07_BrandSame.L6_eq]
    simp [ht]
    exact st
theorem frz_900011 (s : St) : frz1 s 900011 = (frzD 3 (s.get 11) s.m).bind fun r => (s.mem r.2).put (some 11) r.1 := rfl
theorem rwL_is (L : List (List Nat)) : IsRows (.fsl false L.length (L.map rwV)) (L.map rwV) (rwL L) := by
  refine ⟨by simp [rwL], fun i hi => ?_, .inr ⟨false, by simp [rwL]⟩⟩
  have hi' : i < L.length := by simpa [rwL] using hi
  have e1 : pth (L.map rwV) i = rwV (lat L i) := by simp [pth, lat, hi', List.getD_eq_getElem?_getD]
  rw [e1, rwL_at hi']
  refine .inr ⟨false, ?_⟩
  simp [rwV, ints, natL, natV]
theorem sa_end {lv nv gv : AV} {l : List Nat} (hb : IsBy lv l) (hlb : ∀ x ∈ l, x < 256) {ps : List AV} {rows : List (List Int)} {good : List Bool} {k : Nat} (hn : IsRows nv ps rows) (hg : IsB gv good) (v : VB rows good k) {L : List (List Nat)} {g : List Bool} (v' : VB (rwL L) g k) (X : Xl rows (rwL L) good g k 0 0) {o : Nat} {t : List (Nat × AV)} {m : Mem} (g2 : AM.get t 2 = lv) (g7 : AM.get t 7 = .fptr [nv, gv]) (g8 : AM.get t 8 = .int .i64 rows.length) (g11 : AM.get t 11 = .ptr o 0 2)
    (hf : ∃ m', frzD 3 (.ptr o 0 2) m = some (.fptr [.fsl false L.length (L.map rwV), .fsl false g.length (bls g)], m')) :
    den prog ann 11 KA6 ⟨t, 282, m⟩ = some (.bool true, Mem.empty) := by
  obtain ⟨m', hf⟩ := hf
  have n6 := v.n6
  have k1 := v.k1
  have k3 := v.k3
  have hgl := v.gl
  have hr : ∀ i, i < rows.length → (cth rows i).length ≤ 1000 := fun i hi => by rw [v.rl i hi]; omega
  have vt := v.to
  have vm := VB_M v
  have vmt := vm.to
  have hm := isRows_M rows good k
  have hg2 := isB_M rows good k
  have n6m := vm.n6
  have hglm := vm.gl
  have hrm : ∀ i, i < (rowsM rows good k).length → (cth (rowsM rows good k) i).length ≤ 1000 := fun i hi => by rw [vm.rl i hi]; omega
  have n6' := v'.n6
  have hgl' := v'.gl
  have vt' := v'.to
  have hr' : ∀ i, i < (rwL L).length → (cth (rwL L) i).length ≤ 1000 := fun i hi => by rw [v'.rl i hi]; omega
  have hO := rwL_is L
  have hGO : IsB (.fsl false g.length (bls g)) g := .inr ⟨false, rfl⟩
  have hO1 := hO.one
  have hO2 := hO.closed
  have hO3 := hO.cells
  have hG1 := hGO.one
  have hG2 := hGO.closed
  have hG3 := hGO.cells
  have hfew := (repL_few v).1
  have s1 := fun m => smallest26_spec hn hg (by omega) (by omega) hr m
  have s2 := fun m => smallest26_spec hO hGO (by omega) (by omega) hr' m
  have s3 := fun m => smallest26_spec hm hg2 (by omega) (by omega) hrm m
  rw [vt, if_pos rfl, v.k0] at s1
  rw [vt', if_pos rfl, v'.k0] at s2
  rw [vmt, if_pos rfl, vm.k0] at s3
  have cn := canon v v' X
  have ss := small_small v
  have hmO : IsRows (nvM (rwL L) g k) (psM (rwL L) g k) (rowsM rows good k) := by rw [cn.1]; exact isRows_M _ _ _
  have hgO : IsB (gvM (rwL L) g k) (goodM rows good k) := by rw [cn.2]; exact isB_M _ _ _
  have hmS : IsRows (nvM (rowsM rows good k) (goodM rows good k) k) (psM (rowsM rows good k) (goodM rows good k) k) (rowsM rows good k) := by
    have := isRows_M (rowsM rows good k) (goodM rows good k) k
    rw [ss.1] at this; exact this
  have hgS : IsB (gvM (rowsM rows good k) (goodM rows good k) k) (goodM rows good k) := by
    have := isB_M (rowsM rows good k) (goodM rows good k) k
    rw [ss.2] at this; exact this
  have e1 := fun m => samebrand_refl hm hmO hg2 hgO (by omega) hrm (by omega) m
  have e2 := fun m => samebrand_refl hm hmS hg2 hgS (by omega) hrm (by omega) m
  have va := fun m => rvalid_spec hm hg2 (by omega) (by omega) hrm m
  rw [vmt] at va
  have d1 := fun m => differ_spec hn hm hg hg2 (by omega) (by omega) (by omega) (by omega) hr hrm m
  have d2 := fun m => differ_spec hn hO hg hGO (by omega) (by omega) (by omega) (by omega) hr hr' m
  rw [if_pos ⟨vt, vmt, by rw [v.k0, vm.k0]⟩, v.k0, dfr_none (small_lang v)] at d1
  rw [if_pos ⟨vt, vt', by rw [v.k0, v'.k0]⟩, v.k0, dfr_none X] at d2
  have hw := fun m => word35_spec hb hlb hn hg v (most := 30) (by omega) m
  have ow := wdL_ok k1 k3 (l.take 30)
  have lw : (wdL k (l.take 30)).length ≤ 30 := by simp [wdL]; omega
  generalize wdL k (l.take 30) = w at *
  have we := wordE_ok (k := k) (s := w) (by omega) ow
  have a1 := fun m => accepts_spec hn hg (by omega) (by omega) hr (s := w) (by omega) m
  have a2 := fun m => accepts_spec hm hg2 (by omega) (by omega) hrm (s := w) (by omega) m
  rw [vt, if_pos rfl, v.k0, we, if_pos rfl] at a1
  rw [vmt, if_pos rfl, vm.k0, we, if_pos rfl, ← (small_lang v).goL ow] at a2
  have hle : ¬ ((rows.length : Int) < ((rowsM rows good k).length : Int)) := by rw [rowsM_len]; omega
  have hml := hm.len
  simp only [resP] at d1 d2
  simp only [Int.cast_ofNat_Int] at hw
  have o1 := hm.one
  have o2 := hm.closed
  have o3 := hm.cells
  have o4 := hg2.one
  have o5 := hg2.closed
  have o6 := hg2.cells
  have p1 := hmO.one
  have p2 := hmO.closed
  have p3 := hmO.cells
  have p4 := hgO.one
  have p5 := hgO.closed
  have p6 := hgO.cells
  have q1 := hmS.one
  have q2 := hmS.closed
  have q3 := hmS.cells
  have q4 := hgS.one
  have q5 := hgS.closed
  have q6 := hgS.cells
  generalize hNM : nvM rows good k = nm at *
  generalize hGM : gvM rows good k = gm at *
  generalize nvM (rwL L) g k = nmO at *
  generalize gvM (rwL L) g k = gmO at *
  generalize nvM (rowsM rows good k) (goodM rows good k) k = nmS at *
  generalize gvM (rowsM rows good k) (goodM rows good k) k = gmS at *
  generalize bnth good (goL rows w 0) = acc at *
  generalize (rowsM rows good k).length = lm at *
  generalize (AV.fsl false L.length (L.map rwV)) = ov at *
  generalize (AV.fsl false g.length (bls g)) = og at *
  simp only [KA6]
  simp [g2, g7, g8, g11, frzL, frz_900011, hf, hn.one, hg.one, hn.closed, hg.closed, hn.cells, hg.cells, hO1, hO2, hO3, hG1, hG2, hG3, s1, s2, s3, o1, o2, o3, o4, o5, o6, p1, p2, p3, p4, p5, p6, q1, q2, q3, q4, q5, q6, e1, e2, va, d1, d2, hml, hle, hw, a1, a2, hb.one, hb.closed, lives_spec]
  done
theorem frz_a (s : St) : frz1 s 1121123 = bif apartD s 121 123 then some s else none := rfl
theorem frz_b (s : St) : frz1 s 1132123 = bif apartD s 132 123 then some s else none := rfl
theorem frz_c (s : St) : frz1 s 1134123 = bif apartD s 134 123 then some s else none := rfl
theorem frz_d (s : St) : frz1 s 1137123 = bif apartD s 137 123 then some s else none := rfl
theorem frz_e (s : St) : frz1 s 1132122 = bif apartD s 132 122 then some s else none := rfl
theorem frz_f (s : St) : frz1 s 1134122 = bif apartD s 134 122 then some s else none := rfl
theorem frz_g (s : St) : frz1 s 1137122 = bif apartD s 137 122 then some s else none := rfl
theorem sam_runs {d : Nat} (a0 a1 a2 : AV) (h0 : DatV prog (d + 4) 37 a0) (h1 : DatV prog (d + 4) 5 a1) (h2 : DatV prog (d + 4) 35 a2) : ∃ m', denC prog ann 11 [a0, a1, a2] Mem.empty = some (.bool true, m') := by
  obtain ⟨s0, s1, q, bv, l, rfl, b0, b1, b2, hb, hlb, _⟩ := datV37 h0
  obtain ⟨y, rfl, hy⟩ := datV5 (d := d + 3) h1
  obtain ⟨l2, hb2, hlb2, _⟩ := datV35 h2
  obtain ⟨rows, good, k, nv, gv, ps, hn, hg, v, hp⟩ := plan_spec b0 b1 b2 hb hlb
  have n1 := v.n1
  have n6 := v.n6
  have k1 := v.k1
  have k3 := v.k3
  have hgl := v.gl
  refine ⟨Mem.empty, ?_⟩
  rw [l07_BrandSame.call_eq _ _ _ _ (by simp [hb.closed, hb2.closed])]
  have key2 : ∀ (h' : Nat → Option AObj) (nx' : Nat) (vs' : List AV) (L' : List (List Nat)) (g' : List Bool), Bm h' 7 3 5 vs' L' g' 9 nx' → Ren rows good k y L' g' → 9 ≤ nx' → l07_BrandSame.L2 (.int .u8 (y : Nat)) a2 (.fptr [nv, gv]) (.int .i64 rows.length) (.sl 1 1 0 rows.length rows.length) (.ptr 7 0 2) (.int .i64 rows.length) ⟨h', nx'⟩ KA2 = some (.bool true, Mem.empty) := by
    intro h' nx' vs' L' g' M R hlo
    have hLl := R.l
    have hgl' := R.gl
    have hrow : ∀ i, i < L'.length → (lat L' i).length = k := fun i hi => by rw [R.row (by omega)]; simp
    obtain ⟨V1, X1⟩ := ren_ok v R
    by_cases c6 : rows.length < 6
    · -- a twin
      have c6' : (rows.length : Int) < 6 := by omega
      have hs0 : y % rows.length < rows.length := Nat.mod_lt _ (by omega)
      have hmod : ((y : Nat) : Int).tmod ((rows.length : Nat) : Int) = ((y % rows.length : Nat) : Int) := by rw [Int.tmod_eq_emod_of_nonneg (by omega)]; simp
      have wy : IntKind.wrap .i64 ((y : Nat) : Int) = (y : Nat) := wrap_id (by omega) (by omega)
      have hn0 : ¬ rows.length = 0 := by omega
      obtain ⟨Rr, r1, r2, r3, r4⟩ := M.b.rowv (i := y % rows.length) (by omega) (by rw [hrow _ (by omega)]; omega)
      have hld := M.b.ld (i := y % rows.length) (by omega)
      rw [r1] at hld
      have hlk := hrow (y % rows.length) (by omega)
      rw [hlk] at r1 hld
      have ho := M.o
      have hG := M.g
      have hT := M.b.o
      have hvl := M.b.l
      rw [hLl] at hld ho hvl
      rw [hgl'] at ho
      have bg := bls_head (bs := g') (i := y % rows.length) (by omega)
      have bgx : (bls g')[y % rows.length]? = some (.bool (bnth g' (y % rows.length))) := by simp [bls, bnth, show y % rows.length < g'.length by omega, List.getD_eq_getElem?_getD]
      have bgq := (List.getElem?_eq_some_iff.1 bgx).2
      have nlk := natL_len (lat L' (y % rows.length))
      rw [hlk] at nlk
      have M2 : Bm (upd (upd (upd (upd (upd h' (nx' + 2) (some (.cells (natL (lat L' (y % rows.length)))))) 3 (some (.cells (vs' ++ [.sl (nx' + 2) 1 0 k k])))) 5 (some (.cells (bls g' ++ [.bool (bnth g' (y % rows.length))])))) 7 (some (.cells [.sl 3 1 0 (rows.length + 1) (rows.length + 1), .sl 5 1 0 (rows.length + 1) (rows.length + 1)]))) (nx' + 9) (some (.cells [.sl (nx' + 2) 1 0 k k]))) 7 3 5 (vs' ++ [.sl (nx' + 2) 1 0 k k]) (L' ++ [lat L' (y % rows.length)]) (g' ++ [bnth g' (y % rows.length)]) 9 (nx' + 24) := by
        refine ⟨?_, ?_, ?_⟩
        · have := M.b.snoc (R := nx' + 2) (hi' := nx' + 24) (l0 := lat L' (y % rows.length)) hlo (by omega) (by omega) (h' := upd (upd (upd (upd (upd h' (nx' + 2) (some (.cells (natL (lat L' (y % rows.length)))))) 3 (some (.cells (vs' ++ [.sl (nx' + 2) 1 0 k k])))) 5 (some (.cells (bls g' ++ [.bool (bnth g' (y % rows.length))])))) 7 (some (.cells [.sl 3 1 0 (rows.length + 1) (rows.length + 1), .sl 5 1 0 (rows.length + 1) (rows.length + 1)]))) (nx' + 9) (some (.cells [.sl (nx' + 2) 1 0 k k]))) (by rw [hlk, updNe (by omega), updNe (by omega), updNe (by omega)]; simp [upd]) (by rw [updNe (by omega), updNe (by omega), updNe (by omega), updNe (by omega)]; simp [upd]) (fun z z1 z2 => by rw [updNe (by omega), updNe (by omega), updNe (by omega), updNe (by omega), updNe (by omega)])
          rw [hlk] at this
          exact this
        · rw [List.length_append, List.length_append, hLl, hgl', updNe (by omega)]; simp [upd]
        · rw [updNe (by omega), updNe (by omega)]; simp [upd, bls]
      have la : ∀ u, u < rows.length → lat (L' ++ [lat L' (y % rows.length)]) u = lat L' u := fun u hu => by simp [lat, List.getD_eq_getElem?_getD, List.getElem?_append_left (show u < L'.length by omega)]
      have lb : lat (L' ++ [lat L' (y % rows.length)]) rows.length = lat L' (y % rows.length) := by rw [← hLl]; simp [lat, List.getD_eq_getElem?_getD]
      have st := sa_t6 (x2 := a2) (x7 := .fptr [nv, gv]) (s0 := y % rows.length) n6 k3 (o := 7) (T := 3) (G := 5) (lo := 9) (by omega) (by omega) (by omega) (by omega) (L0 := L' ++ [lat L' (y % rows.length)]) (fun t ht => by rw [la t ht, hrow t (by omega)]) (r := some (.bool true, Mem.empty)) (nx0 := nx' + 24) (by omega) (vs := vs' ++ [.sl (nx' + 2) 1 0 k k]) (g := g' ++ [bnth g' (y % rows.length)]) (fun h3 L3 M3 e1 e2 e3 => by
        obtain ⟨V2, X2⟩ := twn_ok v R hs0 c6 (L' := L3) (g' := g' ++ [bnth g' (y % rows.length)]) ⟨e1, rfl, fun t ht => by
          rw [e2 t ht, la t ht, rwT, hrow t (by omega)]
          refine List.map_congr_left fun b hb => ?_
          have : b < k := by simpa using hb
          rw [if_pos this], by rw [e3, lb]⟩
        have hr3 : ∀ i, i < L3.length → 0 < (lat L3 i).length := fun i hi => by
          by_cases e : i = rows.length
          · rw [e, e3, lb, hlk]; omega
          · rw [e2 i (by omega), rwT_len, la i (by omega), hrow i (by omega)]; omega
        obtain ⟨m4, f1, f2⟩ := frz_brand M3.b (by omega) hr3 M3.o M3.g (by omega) (by omega) (by omega) (by omega) (by omega) (nx' + 24)
        rw [l07_BrandSame.L6_eq]
        simp [-l07_BrandSame.r28_eq]
        exact sa_end hb2 hlb2 hn hg v V2 X2 rfl rfl rfl rfl ⟨m4, f1⟩) rows.length 0 _ _ (by omega) M2 (by simp [hLl]) (fun u hu => by rw [if_neg (by omega)]) rfl
      simp only [Int.ofNat_zero, Int.cast_ofNat_Int, KA6] at st
      have hvx : vs'[y % rows.length]? = some (.sl Rr 1 0 k k) := by
        have : y % rows.length < vs'.length := by omega
        rw [← r1]; simp [vat, this, List.getD_eq_getElem?_getD]
      have hvq := (List.getElem?_eq_some_iff.1 hvx).2
      have zk : (k == 0) = false := beq_eq_false_iff_ne.2 (by omega)
      have zk2 : (0 == k) = false := beq_eq_false_iff_ne.2 (by omega)
      have z5 : (nx' == 5) = false := beq_eq_false_iff_ne.2 (by omega)
      have z3 : (nx' == 3) = false := beq_eq_false_iff_ne.2 (by omega)
      have z1 : (nx' == 1) = false := beq_eq_false_iff_ne.2 (by omega)
      have zr : (Rr == nx' + 2) = false := beq_eq_false_iff_ne.2 (by omega)
      have zr' : (nx' + 2 == Rr) = false := beq_eq_false_iff_ne.2 (by omega)
      have tkk : (natL (lat L' (y % rows.length))).take k = natL (lat L' (y % rows.length)) := List.take_of_length_le (by omega)
      generalize hys : y % rows.length = ys at *
      rw [l07_BrandSame.L2_eq]
      simp [KA2, c6, c6', wy, hmod, hn0, ho, hvq, hT, hvl, hG, hgl', r2, nlk, hs0, bgq, srcA, z5, z3, z1, zr, zr', tkk, zk, zk2, show k ≤ 4611686018427387904 by omega, show k * 8 ≤ 70368744177664 by omega, show rows.length ≤ 4611686018427387903 by omega, show (rows.length + 1) * 24 ≤ 70368744177664 by omega, show rows.length + 1 ≤ 70368744177664 by omega, frzL, frz_a, frz_b, frz_c, frz_d, frz_e, frz_f, frz_g, apartD, -l07_BrandSame.r28_eq]
      exact st
    · have c6' : ¬ (rows.length : Int) < 6 := by omega
      obtain ⟨m4, f1, f2⟩ := frz_brand M.b hlo (fun i hi => by rw [hrow i hi]; omega) M.o M.g (by omega) (by omega) (by omega) (by omega) (by omega) nx'
      rw [l07_BrandSame.L2_eq]
      simp [KA2, c6, c6', -l07_BrandSame.r28_eq]
      exact sa_end hb2 hlb2 hn hg v V1 X1 rfl rfl rfl rfl ⟨m4, f1⟩
  have key1 : ∀ h : Nat → Option AObj, h 3 = some (.cells (List.replicate rows.length .nils)) → h 5 = some (.cells (List.replicate rows.length (.bool false))) → h 7 = some (.cells [.sl 3 1 0 rows.length rows.length, .sl 5 1 0 rows.length rows.length]) → h 1 = some (.cells (natL (nums rows.length y rows.length))) → l07_BrandSame.L2 (.int .u8 (y : Nat)) a2 (.fptr [nv, gv]) (.int .i64 rows.length) (.sl 1 1 0 rows.length rows.length) (.ptr 7 0 2) (.int .i64 (0 : Nat)) ⟨h, 9⟩ KA2 = some (.bool true, Mem.empty) := by
    intro h e3 e5 e7 e1
    refine sa_out hn hg v (y := y) (Nn := 1) (o := 7) (T := 3) (G := 5) (lo := 9) (by omega) (by omega) (by omega) (by omega) (by omega) (by omega) (by omega) (by omega) (by omega) key2 rows.length 0 h 9 (List.replicate rows.length .nils) (List.replicate rows.length []) (List.replicate rows.length false) (by omega) (by omega) ⟨⟨e3, by simp, fun i hi => ?_, fun i j hi hj _ z e => ?_, by omega⟩, by simpa using e7, by rw [e5]; simp [bls]⟩ (by simp) (by simp) e1 (fun t ht => ?_) (fun t ht => by omega)
    · have hi : i < rows.length := by simpa using hi
      have e1 : vat (List.replicate rows.length .nils) i = .nils := by simp [vat, List.getD_eq_getElem?_getD, hi]
      have e2 : lat (List.replicate rows.length []) i = [] := by simp [lat, List.getD_eq_getElem?_getD, hi]
      rw [e1, e2]
      exact .nil
    · have hi : i < rows.length := by simpa using hi
      have e1 : vat (List.replicate rows.length .nils) i = .nils := by simp [vat, List.getD_eq_getElem?_getD, hi]
      rw [e1] at e
      simp [objId] at e
    · have := nbS_lt (y := y) ht
      simp [lat, List.getD_eq_getElem?_getD, this]
  have key0 : ∀ h : Nat → Option AObj, h 1 = some (.cells (natL (nums rows.length y 1))) → l07_BrandSame.L0 (.int .u8 (y : Nat)) a2 (.fptr [nv, gv]) (.int .i64 rows.length) (.sl 1 1 0 1 1) (.int .i64 (1 : Nat)) ⟨h, 2⟩ KA0 = some (.bool true, Mem.empty) := by
    intro h e1
    refine sa_num n6 hy (nx0 := 2) (rows.length - 1) 1 h (by omega) (by omega) e1 (fun h' f1 f2 => ?_)
    have k1' := fun hh a b c d => key1 hh a b c d
    simp only [Int.ofNat_zero, Int.cast_ofNat_Int] at k1'
    rw [l07_BrandSame.L0_eq]
    simp [KA0, show rows.length ≤ 4611686018427387904 by omega, show rows.length * 24 ≤ 70368744177664 by omega, show rows.length ≤ 70368744177664 by omega]
    rw [k1' _ (by simp) (by simp) (by simp) (by simp [f1])]
  simp only [Int.natCast_one, KA0, KA2] at key0
  simp [hb.one, hb.closed, hb2.one, hb2.closed, hp, hn.one, hg.one, hn.closed, hg.closed, hn.cells, hg.cells, hn.len]
  rw [key0 _ (by simp [natL, natV, nums, nbS])]
  rfl
end Go.Proofs.Ythnpflkpjimkfaa
