/-
  BELOW: the program's searches, and what it returns. Conditions: none.
-/
import Derived.Test.YthnpflkpjimkfaaK03
import Derived.Test.YthnpflkpjimkfaaK01
import Derived.Test.YthnpflkpjimkfaaK02
import Derived.Test.YthnpflkpjimkfaaKAmH
set_option linter.all false
namespace Go.Proofs.Ythnpflkpjimkfaa
open Go.AM
open Go.Proofs.Try (prog)
set_option linter.all false
set_option maxRecDepth 100000
set_option maxHeartbeats 8000000
theorem bl_out {nv gv : AV} {ps : List AV} {rows : List (List Int)} {good : List Bool} {k : Nat} (hn : IsRows nv ps rows) (hg : IsB gv good) (v : VB rows good k) {S : SM} (W : MW rows k S) {lf rt : Bool} {T lo : Nat} {r : Option Res} :
    ∀ (c i : Nat) (h : Nat → Option AObj) (nx0 : Nat) (vs : List AV) (L : List (List Nat)), i + c = S.1.length → Tb h T vs L lo nx0 → lo ≤ nx0 → L.length = S.1.length → (∀ j, j < i → lat L j = stpM rows S k lf rt j) → (∀ j, i ≤ j → lat L j = []) →
    (∀ h' nx' vs' L', Tb h' T vs' L' lo nx' → lo ≤ nx' → L'.length = S.1.length → (∀ j, j < S.1.length → lat L' j = stpM rows S k lf rt j) →
      brand_monoid_below.L0 (monV nv gv S) (.bool lf) (.bool rt) (.int .i64 S.1.length) (.sl T 1 0 S.1.length S.1.length) (wdsV S) (.int .i64 S.2.length) (.int .i64 S.1.length) ⟨h', nx'⟩ KB0 = r) →
    brand_monoid_below.L0 (monV nv gv S) (.bool lf) (.bool rt) (.int .i64 S.1.length) (.sl T 1 0 S.1.length S.1.length) (wdsV S) (.int .i64 S.2.length) (.int .i64 i) ⟨h, nx0⟩ KB0 = r := by
  intro c
  have hlen := W.ok.len
  induction c with
  | zero =>
    intro i h nx0 vs L h1 B hlo hL hd hz hk
    have e : i = S.1.length := by omega
    subst e
    exact hk h nx0 vs L B hlo hL hd
  | succ c ih =>
    intro i h nx0 vs L h1 B hlo hL hd hz hk
    have hi : i < S.1.length := by omega
    have hi2 : i < S.2.length := by omega
    obtain ⟨w1, w2, w3, w4⟩ := W.wok hi
    have r0 := v.rl 0 v.n1
    have i0 := hn.idx (i := 0) v.n1 .i64
    have j0 := hn.head (i := 0) v.n1
    have iw0 := hn.row 0 v.n1
    simp only [Int.ofNat_zero, Int.cast_ofNat_Int, List.drop_zero] at i0 j0
    have hdw : ((S.2.map AV.str).drop i).head? = some (.str (wrd S i)) := by rw [List.head?_drop, List.getElem?_map, w1]; rfl
    have st := bl_in (T := T) (lo := lo) (lf := lf) (rt := rt) (r := r) hn hg v W hi k 0 h nx0 vs L (by omega) B hlo hL (by rw [hz i (Nat.le_refl _)]; simp) (fun h' nx' vs' B' hlo' => by
      rw [hz i (Nat.le_refl _), List.nil_append, stAc_all] at B'
      have := ih (i + 1) h' nx' vs' _ (by omega) B' hlo' (by simp [hL]) (fun j hj => by
        rw [lat_set (by omega)]
        by_cases q : i = j
        · rw [if_pos q, q]
        · rw [if_neg q]; exact hd j (by omega)) (fun j hj => by rw [lat_set (by omega), if_neg (by omega)]; exact hz j (by omega)) hk
      simp only [Int.natCast_add, Int.cast_ofNat_Int] at this
      exact this)
    simp only [Int.ofNat_zero, Int.cast_ofNat_Int] at st
    have hmon : ∀ x, (monV nv gv S) = x → x = .fptr [nv, gv, wdsV S, .fmap (S.1.map encM) ((List.range S.1.length).map natV)] := fun x e => by rw [← e]; rfl
    rw [brand_monoid_below.L0_eq]
    simp only [wdsV, monV] at st ⊢
    simp [hi2, hdw, i0, j0, iw0.len, r0, -List.head?_drop, -List.map_drop]
    exact st
structure Bs (h : Nat → Option AObj) (nx : Nat) (T d : Nat) (vs : List AV) (L : List (List Nat)) (lo hiT : Nat) (ids : List Nat) (Dp : MB) (n e : Nat) (q : AV) (iq : Nat) (P : VP) : Prop where
  tb : Tb h T vs L lo hiT
  bt : Bt h d ids (Dp ++ [P.1]) n e
  q : Gl ⟨h, nx⟩ q iq 1 P.2.length (P.2.map natV)
  lt : lo ≤ hiT ∧ hiT ≤ d ∧ (∀ y ∈ ids, hiT ≤ y ∧ y < nx) ∧ hiT ≤ iq ∧ iq ≠ d ∧ iq ∉ ids ∧ d < nx
  s : cf P.1 + P.2.length ≤ 500
noncomputable def KB4 : List Item := [.code brand_monoid_below.r32, .code .ret]
noncomputable def KB6 : List Item := .inBlock 5 :: .code brand_monoid_below.r31 :: .inLoop brand_monoid_below.l4 :: .inBlock 4 :: KB4
noncomputable def KB8 : List Item := .inBlock 7 :: .code brand_monoid_below.r23 :: .inLoop brand_monoid_below.l6 :: .inBlock 6 :: KB6
theorem bl_v {T d : Nat} {vs : List AV} {L : List (List Nat)} {lo hiT : Nat} {ids : List Nat} {Dp : MB} {n e : Nat} (hn400 : n ≤ 400) (hDe : Dp.length + 1 + e = n) (hLn : L.length = n) (hLs : ∀ j k, k ∈ lat L j → k < n) {x : Nat} (hx : x < n) {r : Option Res} :
    ∀ (c p : Nat) (h : Nat → Option AObj) (nx0 : Nat) (q : AV) (iq : Nat) (P : VP), p + c = (lat L x).length → (lat L x).length ≤ 1000 → Bs h nx0 T d vs L lo hiT ids Dp n e q iq P → 0 < P.2.length →
    (∀ h' nx' q' iq', Bs h' nx' T d vs L lo hiT ids Dp n e q' iq' (visF ((lat L x).drop p) P) → (∀ y, y < hiT → h' y = h y) → nx0 ≤ nx' →
      brand_monoid_below.L6 (.int .i64 n) (.sl T 1 0 n n) (.sl d 1 0 n n) (.int .i64 Dp.length) (tlV q' 1) (.int .i64 n) (.int .i64 Dp.length) ⟨h', nx'⟩ KB6 = r) →
    brand_monoid_below.L8 (.int .i64 n) (.sl T 1 0 n n) (.sl d 1 0 n n) (.int .i64 Dp.length) q (.int .i64 n) (.int .i64 Dp.length) (vat vs x) (.int .i64 (lat L x).length) (.int .i64 p) ⟨h, nx0⟩ KB8 = r := by
  intro c
  induction c with
  | zero =>
    intro p h nx0 q iq P h1 hll B hP hk
    have ep : p = (lat L x).length := by omega
    subst ep
    have hk := hk h nx0 q iq (by rw [List.drop_of_length_le (Nat.le_refl _)]; exact B) (fun _ _ => rfl) (Nat.le_refl _)
    rw [brand_monoid_below.L8_eq]
    simp [KB8, B.q.cut hP]
    exact hk
  | succ c ih =>
    intro p h nx0 q iq P h1 hll B hP hk
    have hp : p < (lat L x).length := by omega
    have hwp : IntKind.wrap .i64 ((p : Int) + 1) = (p : Int) + 1 := wrap_id (by omega) (by omega)
    have hd := List.drop_eq_getElem_cons hp
    have hj := hLs x _ (List.getElem_mem hp)
    have hjx : (lat L x)[p]? = some (lat L x)[p] := List.getElem?_eq_getElem hp
    generalize (lat L x)[p] = j at hd hj hjx
    have hxe := (List.getElem?_eq_some_iff.1 hjx).2
    have N := B.tb.e x (by omega)
    obtain ⟨R', e1, e2, e3, e4⟩ := N.sl (N.nn (by intro e; have := congrArg List.length e; simp at this; rw [this] at hp; simp at hp))
    have hcell : ((lat L x).map natV)[p]? = some (.int .i64 (j : Int)) := by simp [hjx, natV]
    simp only [List.length_map] at e1
    have hid : Dp.length < (Dp ++ [P.1]).length := by simp
    have l1 := fun n' => B.bt.ld hid n'
    have hsum : (Dp ++ [P.1]).length + e = n := by simp; omega
    rw [hsum] at l1
    have l2 := fun n' => B.bt.get hid hj n'
    have hm : mth (Dp ++ [P.1]) Dp.length j = bnth P.1 j := by simp [mth, brw, List.getD_eq_getElem?_getD]
    rw [hm] at l2
    have hDn : Dp.length < n := by omega
    have hrl : P.1.length = n := by
      have := B.bt.rl Dp.length hid
      simpa [brw, List.getD_eq_getElem?_getD] using this
    rw [hd, visF, List.foldl_cons] at hk
    cases qq : bnth P.1 j with
    | true =>
      rw [qq] at l2
      have ev : vis1 P j = P := by rw [vis1, if_pos qq]
      rw [ev] at hk
      have st := ih (p + 1) h nx0 q iq P (by omega) hll B hP hk
      simp only [Int.natCast_add, Int.cast_ofNat_Int] at st
      rw [e1] at st ⊢
      rw [brand_monoid_below.L8_eq]
      simp [hp, e2, hxe, natV, hDn, hj, l1, l2, hwp, -stA_ptr]
      exact st
    | false =>
      rw [qq] at l2
      have ev : vis1 P j = (P.1.set j true, P.2 ++ [j]) := by rw [vis1, if_neg (by rw [qq]; simp)]
      rw [ev] at hk
      obtain ⟨p1, p2⟩ := B.bt.put hid hj true nx0
      rw [setM_app] at p2
      have hrm := B.bt.rm hid
      obtain ⟨o1, o2, o3, o4, o5, o6, o7⟩ := B.lt
      have hRlt := o3 _ hrm
      generalize hrr : rid ids Dp.length = rr at *
      generalize hrow : (brw (Dp ++ [P.1]) Dp.length).set j true = row' at *
      have hfr : ∀ y, y < hiT → upd h rr (some (.cells (bls row'))) y = h y := fun y hy => updNe (by omega)
      have hq2 : Gl ⟨upd h rr (some (.cells (bls row'))), nx0⟩ q iq 1 P.2.length (P.2.map natV) := B.q.fr (updNe (fun e => o6 (e ▸ hrm))) (by have := B.q.lt; exact this)
      obtain ⟨q', m3, iq', g1, g2, g3, g4, g5⟩ := hq2.app (by' := 8) (ys := [natV j]) rfl (by have := B.s; simp; omega)
      obtain ⟨h3, n3⟩ := m3
      simp only at g3 g4 g5
      have hqlt := B.q.lt
      simp only at hqlt
      have hiq' : hiT ≤ iq' ∧ iq' ≠ d ∧ iq' ∉ ids := by
        rcases g4 with e | e
        · rw [e]; exact ⟨o4, o5, o6⟩
        · rw [e]; exact ⟨by omega, by omega, fun w => by have := o3 _ w; omega⟩
      have low : ∀ y, y < hiT → h3 y = h y := fun y hy => by rw [g5 y (by omega) (by omega), hfr y hy]
      have hcf := cf_set (row := P.1) (j := j) (by omega) qq
      have B2 : Bs h3 n3 T d vs L lo hiT ids Dp n e q' iq' (P.1.set j true, P.2 ++ [j]) := by
        refine ⟨B.tb.fr (fun y hy => low y hy) (Nat.le_refl _) o1, ?_, ?_, ⟨o1, o2, fun y hy => ⟨(o3 y hy).1, by have := (o3 y hy).2; omega⟩, hiq'.1, hiq'.2.1, hiq'.2.2, by omega⟩, ?_⟩
        · exact p2.fr (g5 d (by omega) (Ne.symm o5)) (fun y hy => g5 y (o3 y hy).2 (fun e => o6 (e ▸ hy)))
        · show Gl ⟨h3, n3⟩ q' iq' 1 ((P.2 ++ [j]).length) ((P.2 ++ [j]).map natV)
          rw [List.map_append, List.length_append]
          exact g2
        · have := B.s
          show cf (P.1.set j true) + (P.2 ++ [j]).length ≤ 500
          simp only [List.length_append, List.length_singleton]; omega
      have st := ih (p + 1) h3 n3 q' iq' _ (by omega) hll B2 (by simp) (fun h' nx' q'' iq'' f1 f2 f3 => hk h' nx' q'' iq'' f1 (fun y hy => by rw [f2 y hy, low y hy]) (by omega))
      simp only [Int.natCast_add, Int.cast_ofNat_Int] at st
      simp only [natV] at g1
      rw [e1] at st ⊢
      rw [brand_monoid_below.L8_eq]
      simp [hp, e2, hxe, natV, hDn, hj, l1, l2, p1, B.q.one, g1, hwp, -stA_ptr]
      exact st
theorem bl_w {T d : Nat} {vs : List AV} {L : List (List Nat)} {lo hiT : Nat} {ids : List Nat} {Dp : MB} {n e : Nat} (hn400 : n ≤ 400) (hDe : Dp.length + 1 + e = n) (hLn : L.length = n) (hLs : ∀ j k, k ∈ lat L j → k < n) (hLl : ∀ j, (lat L j).length ≤ 1000) {r : Option Res} :
    ∀ (f : Nat) (h : Nat → Option AObj) (nx0 : Nat) (q : AV) (iq : Nat) (P : VP), Bs h nx0 T d vs L lo hiT ids Dp n e q iq P → VI n (lat L) Dp.length P → cf P.1 + P.2.length < f →
    (∀ h' nx', Tb h' T vs L lo hiT → Bt h' d ids (Dp ++ [vis (lat L) f P]) n e → (∀ y ∈ ids, hiT ≤ y ∧ y < nx') → d < nx' → nx0 ≤ nx' →
      brand_monoid_below.L4 (.int .i64 n) (.sl T 1 0 n n) (.sl d 1 0 n n) (.int .i64 n) (.int .i64 ((Dp.length : Int) + 1)) ⟨h', nx'⟩ KB4 = r) →
    brand_monoid_below.L6 (.int .i64 n) (.sl T 1 0 n n) (.sl d 1 0 n n) (.int .i64 Dp.length) q (.int .i64 n) (.int .i64 Dp.length) ⟨h, nx0⟩ KB6 = r := by
  intro f
  induction f with
  | zero => intro h nx0 q iq P B I hf; omega
  | succ f ih =>
    intro h nx0 q iq P B I hf hk
    obtain ⟨o1, o2, o3, o4, o5, o6, o7⟩ := B.lt
    have hDn : Dp.length < n := by omega
    rw [vis] at hk
    cases eP : P.2 with
    | nil =>
      rw [eP] at hk
      have hwi : IntKind.wrap .i64 ((Dp.length : Int) + 1) = (Dp.length : Int) + 1 := wrap_id (by omega) (by omega)
      have hl := B.q.len
      rw [eP] at hl
      have hk := hk h nx0 B.tb B.bt o3 o7 (Nat.le_refl _)
      rw [brand_monoid_below.L6_eq]
      simp [hl, KB6, hwi]
      exact hk
    | cons x t =>
      rw [eP] at hk
      simp only [] at hk
      have hh : P.2.head? = some x := by rw [eP]; rfl
      have hx := I.t x (by rw [eP]; simp)
      have hpos : 0 < P.2.length := by rw [eP]; simp
      obtain ⟨g1, g2, g3, g4, g5⟩ := visF_inv (fun j k hk => hLs j k hk) (I.r x hx.1 hx.2) (lat L x) P (fun k hk => hk) I hh
      have hlq := B.q.len
      have hi0 := B.q.idx0 hpos .i64
      have ld := B.q.load1 hpos
      have e0 : (P.2.map natV)[0]? = some (.int .i64 (x : Int)) := by rw [eP]; rfl
      rw [e0] at ld
      have l1 := fun n' => B.tb.ld (i := x) (by omega) n'
      rw [hLn] at l1
      have lN := (B.tb.e x (by omega)).len
      simp only [List.length_map] at lN
      have st := bl_v (T := T) (d := d) (vs := vs) (L := L) (lo := lo) (hiT := hiT) (ids := ids) (Dp := Dp) (e := e) hn400 hDe hLn hLs hx.1 (r := r) (lat L x).length 0 h nx0 q iq P (by omega) (hLl x) B hpos (fun h' nx' q' iq' B' hfr hnx' => by
        rw [List.drop_zero] at B'
        generalize visF (lat L x) P = Q at *
        have hQ : Q.2.head? = some x := g2
        obtain ⟨Q1, Q2⟩ := Q
        cases Q2 with
        | nil => simp at hQ
        | cons y Q2 =>
          simp at hQ
          subst hQ
          have ht := B'.q.tail (by simp)
          have hcs := B'.s
          refine ih h' nx' (tlV q' 1) iq' (Q1, Q2) ⟨B'.tb, B'.bt, by simpa using ht, B'.lt, by simp only [List.length_cons] at hcs; show cf Q1 + Q2.length ≤ 500; omega⟩ ⟨g1.l, g1.m, g1.r, fun j hj => g1.t j (by simp [hj]), fun j hj ej => ?_⟩ (by simp only [List.length_cons] at g5; show cf Q1 + Q2.length < f; omega) (fun h2 nx2 f1 f2 f3 f4 f5 => hk h2 nx2 f1 (by simpa using f2) f3 f4 (by omega))
          by_cases w : j = y
          · subst w; right; exact g4
          · rcases g1.c j hj ej with h1 | h1
            · left
              simp at h1
              rcases h1 with h1 | h1
              · exact absurd h1 w
              · exact h1
            · right; exact h1)
      simp only [Int.ofNat_zero, Int.cast_ofNat_Int] at st
      rw [brand_monoid_below.L6_eq]
      simp [hlq, hpos, hi0, ld, hx.1, l1, lN]
      exact st
def rowB (stp : Nat → List Nat) (n i : Nat) : List Bool := vis stp (n + 2) ((List.replicate n false).set i true, [i])
theorem VI0 {n i : Nat} (stp : Nat → List Nat) (hi : i < n) : VI n stp i ((List.replicate n false).set i true, [i]) ∧ cf ((List.replicate n false).set i true) + [i].length < n + 2 := by
  have hb : ∀ j, bnth ((List.replicate n false).set i true) j = if i = j then true else false := fun j => by
    rw [bnth_set (by simpa using hi)]
    by_cases e : i = j
    · rw [if_pos e, if_pos e]
    · rw [if_neg e, if_neg e]
      simp only [bnth, List.getD_eq_getElem?_getD]
      by_cases q : j < n
      · simp [q]
      · simp [show n ≤ j by omega]
  refine ⟨⟨by simp, by rw [hb, if_pos rfl], fun j _ e => ?_, fun j hj => ?_, fun j _ e => ?_⟩, ?_⟩
  · rw [hb] at e
    by_cases w : i = j
    · subst w; exact .refl
    · rw [if_neg w] at e; cases e
  · simp at hj; subst hj; exact ⟨hi, by rw [hb, if_pos rfl]⟩
  · rw [hb] at e
    by_cases w : i = j
    · left; simp [w]
    · rw [if_neg w] at e; cases e
  · have : cf ((List.replicate n false).set i true) ≤ n := by
      have := List.countP_le_length (p := fun b => !b) (l := (List.replicate n false).set i true)
      simpa [cf] using this
    simp only [List.length_singleton]; omega
theorem vis_congr {stp stp' : Nat → List Nat} {n i : Nat} (hs : ∀ j, ∀ k ∈ stp j, k < n) (he : ∀ j, j < n → stp j = stp' j) : ∀ (f : Nat) (P : VP), VI n stp i P → vis stp f P = vis stp' f P
  | 0, P, _ => rfl
  | f + 1, P, h => by
    rw [vis, vis]
    cases e : P.2 with
    | nil => rfl
    | cons x t =>
      simp only []
      have hx := h.t x (by rw [e]; simp)
      rw [← he x hx.1]
      have hh : P.2.head? = some x := by rw [e]; rfl
      obtain ⟨g1, g2, g3, g4, g5⟩ := visF_inv hs (h.r x hx.1 hx.2) (stp x) P (fun k hk => hk) h hh
      generalize visF (stp x) P = Q at *
      obtain ⟨Q1, Q2⟩ := Q
      cases Q2 with
      | nil => simp at g2
      | cons y Q2 =>
        simp at g2
        subst g2
        exact vis_congr hs he f (Q1, (y :: Q2).drop 1) ⟨g1.l, g1.m, g1.r, fun j hj => g1.t j (by simp at hj; simp [hj]), fun j hj ej => by
          by_cases w : j = y
          · subst w; right; exact g4
          · rcases g1.c j hj ej with h1 | h1
            · left
              simp at h1 ⊢
              rcases h1 with h1 | h1
              · exact absurd h1 w
              · exact h1
            · right; exact h1⟩
end Go.Proofs.Ythnpflkpjimkfaa

/-
  BELOW: what the program returns. Conditions: none.
-/
namespace Go.Proofs.Ythnpflkpjimkfaa
open Go.AM
open Go.Proofs.Try (prog)
set_option linter.all false
set_option maxRecDepth 100000
set_option maxHeartbeats 8000000
theorem bl_rows {T d : Nat} {vs : List AV} {L : List (List Nat)} {lo hiT : Nat} {n : Nat} (hn400 : n ≤ 400) (hLn : L.length = n) (hLs : ∀ j k, k ∈ lat L j → k < n) (hLl : ∀ j, (lat L j).length ≤ 1000) (hlo : lo ≤ hiT) (hd : hiT ≤ d) :
    ∀ (c i : Nat) (h : Nat → Option AObj) (nx0 : Nat) (ids : List Nat), i + c = n → Tb h T vs L lo hiT → Bt h d ids ((List.range i).map (rowB (lat L) n)) n c → (∀ y ∈ ids, hiT ≤ y ∧ y < nx0) → d < nx0 →
    brand_monoid_below.L4 (.int .i64 n) (.sl T 1 0 n n) (.sl d 1 0 n n) (.int .i64 n) (.int .i64 i) ⟨h, nx0⟩ KB4 = some (mbV n ((List.range n).map (rowB (lat L) n)), Mem.empty) := by
  intro c
  induction c with
  | zero =>
    intro i h nx0 ids h1 B Bt0 hids hdn
    have e : i = n := by omega
    subst e
    have hdp := Bt0.deep 3
    have hl : ((List.range i).map (rowB (lat L) i)).length = i := by simp
    rw [hl] at hdp
    rw [brand_monoid_below.L4_eq]
    simp [KB4, hdp]
    done
  | succ c ih =>
    intro i h nx0 ids h1 B Bt0 hids hdn
    have hi : i < n := by omega
    have hil : ids.length = i := by rw [Bt0.l]; simp
    have hli : ((List.range i).map (rowB (lat L) n)).length = i := by simp
    have hid := B.t
    have hdd : ∀ v, (upd h nx0 v) d = some (.cells (ids.map (fun r => AV.sl r 1 0 n n) ++ List.replicate (c + 1) AV.nils)) := fun v => by rw [updNe (by omega), Bt0.o]
    have hll : (ids.map (fun r => AV.sl r 1 0 n n) ++ List.replicate (c + 1) AV.nils).length = n := by simp [hil]; omega
    have hst : stA false 1 ⟨upd h nx0 (some (AObj.cells (List.replicate n (AV.bool false)))), nx0 + 1⟩ (.ptr d i n) (.sl nx0 1 0 n n) = some (.tup [], ⟨upd (upd h nx0 (some (AObj.cells (List.replicate n (AV.bool false))))) d (some (.cells ((ids.map (fun r => AV.sl r 1 0 n n) ++ List.replicate (c + 1) AV.nils).set i (.sl nx0 1 0 n n)))), nx0 + 1⟩) := by
      rw [stA_ptr]
      show stO false 1 _ d i n _ ((upd h nx0 (some (AObj.cells (List.replicate n (AV.bool false))))) d) = _
      rw [hdd, stO_cells0, hll]
      simp [hi, AV.one, Mem.set]
    have B2 := Bt0.add (h' := upd (upd h nx0 (some (AObj.cells (List.replicate n (AV.bool false))))) d (some (.cells ((ids.map (fun r => AV.sl r 1 0 n n) ++ List.replicate (c + 1) AV.nils).set i (.sl nx0 1 0 n n))))) (x := nx0) (row := List.replicate n false) (by omega) (fun q => by have := hids _ q; omega) (by simp) (by rw [hli]; simp) (by rw [updNe (by omega)]; simp [bls]) (fun y hy => by
      have := hids y hy
      rw [updNe (fun e => Bt0.nd' (by rw [← e]; exact hy)), updNe (by omega)])
    generalize hh2 : upd (upd h nx0 (some (AObj.cells (List.replicate n (AV.bool false))))) d (some (.cells ((ids.map (fun r => AV.sl r 1 0 n n) ++ List.replicate (c + 1) AV.nils).set i (.sl nx0 1 0 n n)))) = h2 at *
    have low2 : ∀ y, y < hiT → h2 y = h y := fun y hy => by rw [← hh2, updNe (by omega), updNe (by omega)]
    have hidx : i < ((List.range i).map (rowB (lat L) n) ++ [List.replicate n false]).length := by simp
    have l1 := fun n' => B2.ld hidx n'
    have hsum : ((List.range i).map (rowB (lat L) n) ++ [List.replicate n false]).length + c = n := by simp; omega
    rw [hsum] at l1
    obtain ⟨p1, p2⟩ := B2.put hidx hi true (nx0 + 1)
    have hrm := B2.rm hidx
    have sa := setM_app ((List.range i).map (rowB (lat L) n)) (List.replicate n false) i true
    rw [hli] at sa
    rw [sa] at p2
    generalize hrr : rid (ids ++ [nx0]) i = rr at *
    generalize hrow : (brw ((List.range i).map (rowB (lat L) n) ++ [List.replicate n false]) i).set i true = row' at *
    have hrrb : hiT ≤ rr ∧ rr ≤ nx0 := by
      rcases List.mem_append.1 hrm with q | q
      · have := hids _ q; omega
      · simp at q; omega
    have hidsn : ∀ y ∈ ids ++ [nx0], hiT ≤ y ∧ y < nx0 + 2 := fun y hy => by
      rcases List.mem_append.1 hy with hy | hy
      · have := hids y hy; omega
      · simp at hy; omega
    obtain ⟨v0, v1⟩ := VI0 (lat L) hi
    have BS : Bs (upd (upd h2 rr (some (.cells (bls row')))) (nx0 + 1) (some (.cells [.int .i64 i]))) (nx0 + 2) T d vs L lo hiT (ids ++ [nx0]) ((List.range i).map (rowB (lat L) n)) n c (.sl (nx0 + 1) 1 0 1 1) (nx0 + 1) ((List.replicate n false).set i true, [i]) := by
      refine ⟨B.fr (fun y hy => by rw [updNe (by omega), updNe (by omega), low2 y hy]) (Nat.le_refl _) hlo, p2.fr (updNe (by omega)) (fun y hy => updNe (by have := hidsn y hy; rcases List.mem_append.1 hy with hy | hy; have := hids y hy; omega; simp at hy; omega)), ⟨⟨[], rfl, by simp [natV]⟩, rfl, by show nx0 + 1 < nx0 + 2; omega⟩, ⟨hlo, hd, hidsn, by omega, by omega, fun w => by
        rcases List.mem_append.1 w with hy | hy
        · have := hids _ hy; omega
        · simp at hy, by omega⟩, by show cf ((List.replicate n false).set i true) + [i].length ≤ 500; omega⟩
    have st := bl_w hn400 (by simp; omega) hLn hLs hLl (r := some (mbV n ((List.range n).map (rowB (lat L) n)), Mem.empty)) (n + 2) _ (nx0 + 2) _ _ _ BS (by rw [hli]; exact v0) v1 (fun h' nx' f1 f2 f3 f4 f5 => by
      have e1 : ((List.range i).map (rowB (lat L) n)) ++ [vis (lat L) (n + 2) ((List.replicate n false).set i true, [i])] = (List.range (i + 1)).map (rowB (lat L) n) := by rw [List.range_succ, List.map_append]; rfl
      rw [e1] at f2
      have := ih (i + 1) h' nx' (ids ++ [nx0]) (by omega) f1 f2 f3 f4
      simp only [hli]
      simp only [Int.natCast_add, Int.cast_ofNat_Int] at this
      exact this)
    simp only [hli] at st
    rw [brand_monoid_below.L4_eq]
    simp [hi, show n ≤ 4611686018427387904 by omega, show n ≤ 70368744177664 by omega, hst, l1, p1, -stA_ptr]
    exact st
def belM (rows : List (List Int)) (S : SM) (k : Nat) (lf rt : Bool) : MB := (List.range S.1.length).map (rowB (stpM rows S k lf rt) S.1.length)
theorem below_spec {nv gv : AV} {ps : List AV} {rows : List (List Int)} {good : List Bool} {k : Nat} (hn : IsRows nv ps rows) (hg : IsB gv good) (v : VB rows good k) {S : SM} (W : MW rows k S) (lf rt : Bool) (m : Mem) :
    denC prog ann 96 [monV nv gv S, .bool lf, .bool rt] m = some (mbV S.1.length (belM rows S k lf rt), m) := by
  have hle := W.ok.le
  have hlen := W.ok.len
  have hpos := W.pos
  have hlat0 : ∀ i, lat (List.replicate S.1.length ([] : List Nat)) i = [] := fun i => by
    by_cases q : i < S.1.length <;> simp [lat, List.getD_eq_getElem?_getD, q]
  have hvat0 : ∀ i, vat (List.replicate S.1.length AV.nils) i = .nils := fun i => by
    by_cases q : i < S.1.length <;> simp [vat, List.getD_eq_getElem?_getD, q]
  have st := bl_out (T := 0) (lo := 1) (lf := lf) (rt := rt) hn hg v W (r := some (mbV S.1.length (belM rows S k lf rt), Mem.empty)) S.1.length 0 (upd Mem.empty.h 0 (some (.cells (List.replicate S.1.length .nils)))) 1 (List.replicate S.1.length .nils) (List.replicate S.1.length []) (by omega)
    ⟨by simp, by simp, fun i hi => by rw [hlat0, hvat0]; exact .nil, fun i j _ _ _ y e => by rw [hvat0] at e; simp [objId] at e, by omega⟩ (by omega) (by simp) (by omega) (fun j _ => hlat0 j) (fun h' nx' vs' L' B hlo hL hst => by
      have hLs : ∀ j k', k' ∈ lat L' j → k' < S.1.length := fun j k' hk' => by
        by_cases q : j < S.1.length
        · rw [hst j q] at hk'; exact stpM_lt v W q k' hk'
        · have : lat L' j = [] := by simp [lat, List.getD_eq_getElem?_getD, show L'.length ≤ j by omega]
          rw [this] at hk'; simp at hk'
      have hLl : ∀ j, (lat L' j).length ≤ 1000 := fun j => by
        by_cases q : j < S.1.length
        · rw [hst j q, stpM, List.length_flatMap]
          have : ∀ (l : List Nat), (l.map fun a => ((if lf = true then [numM rows S (ltr a ++ wrd S j)] else []) ++ (if rt = true then [numM rows S (wrd S j ++ ltr a)] else [])).length).sum ≤ 2 * l.length := by
            intro l
            induction l with
            | nil => simp
            | cons a l ih =>
              have h2 : ((if lf = true then [numM rows S (ltr a ++ wrd S j)] else []) ++ (if rt = true then [numM rows S (wrd S j ++ ltr a)] else [])).length ≤ 2 := by cases lf <;> cases rt <;> simp
              rw [List.map_cons, List.sum_cons, List.length_cons]; omega
          have := this (List.range k)
          simp only [List.length_range] at this
          have k3 := v.k3
          omega
        · have : lat L' j = [] := by simp [lat, List.getD_eq_getElem?_getD, show L'.length ≤ j by omega]
          rw [this]; simp
      have hrow : (List.range S.1.length).map (rowB (lat L') S.1.length) = belM rows S k lf rt := by
        rw [belM]
        refine List.map_congr_left fun i hi => ?_
        have hi : i < S.1.length := by simpa using hi
        exact vis_congr hLs (fun j hj => hst j hj) _ _ (VI0 (lat L') hi).1
      have st2 := bl_rows (T := 0) (d := nx') (vs := vs') (L := L') (lo := 1) (hiT := nx') hle hL hLs hLl hlo (Nat.le_refl _) S.1.length 0 (upd h' nx' (some (.cells (List.replicate S.1.length .nils)))) (nx' + 1) [] (by omega) (B.fr (fun y hy => updNe (by omega)) (Nat.le_refl _) hlo) ⟨by simp, by simp, by simp, by simp, by simp, by simp⟩ (by simp) (by omega)
      rw [hrow] at st2
      simp only [Int.ofNat_zero, Int.cast_ofNat_Int, KB4] at st2
      rw [brand_monoid_below.L0_eq]
      simp [KB0, hlen, show S.2.length ≤ 4611686018427387904 by omega, show S.2.length * 24 ≤ 70368744177664 by omega]
      simp only [hlen] at st2
      exact st2)
  simp only [Int.ofNat_zero, Int.cast_ofNat_Int, KB0] at st
  rw [monV, brand_monoid_below.call_eq _ _ _ _ (by simp)]
  simp only [wdsV, monV, hlen] at st ⊢
  simp [hlen, show S.2.length ≤ 4611686018427387904 by omega, show S.2.length * 24 ≤ 70368744177664 by omega]
  rw [st]
  rfl
open Classical in
theorem belM_law {rows : List (List Int)} {good : List Bool} {k : Nat} (v : VB rows good k) {S : SM} (W : MW rows k S) (lf rt : Bool) : Wf S.1.length (belM rows S k lf rt) ∧ ∀ i j, i < S.1.length → j < S.1.length → mth (belM rows S k lf rt) i j = decide (Blw rows S k lf rt i j) := by
  have hs : ∀ j, j < S.1.length → ∀ k' ∈ stpM rows S k lf rt j, k' < S.1.length := fun j hj => stpM_lt v W hj
  have hs' : ∀ j, ∀ k' ∈ (fun j => if j < S.1.length then stpM rows S k lf rt j else []) j, k' < S.1.length := fun j k' hk' => by
    by_cases q : j < S.1.length
    · simp only [if_pos q] at hk'; exact hs j q k' hk'
    · simp only [if_neg q] at hk'; simp at hk'
  have key : ∀ i, i < S.1.length → (rowB (stpM rows S k lf rt) S.1.length i).length = S.1.length ∧ ∀ j, j < S.1.length → (bnth (rowB (stpM rows S k lf rt) S.1.length i) j = true ↔ Blw rows S k lf rt i j) := by
    intro i hi
    have e : rowB (stpM rows S k lf rt) S.1.length i = rowB (fun j => if j < S.1.length then stpM rows S k lf rt j else []) S.1.length i := by
      refine (vis_congr hs' (fun j hj => by simp only [if_pos hj]) _ _ (VI0 _ hi).1).symm
    obtain ⟨v0, v1⟩ := VI0 (fun j => if j < S.1.length then stpM rows S k lf rt j else []) hi
    obtain ⟨l1, l2⟩ := vis_law hs' hi _ _ v0 v1
    rw [e]
    refine ⟨l1, fun j hj => (l2 j hj).trans ⟨fun r => ?_, fun b => ?_⟩⟩
    · refine blw_of_rch v W hi ?_
      have : ∀ j, Rch (fun j => if j < S.1.length then stpM rows S k lf rt j else []) i j → Rch (stpM rows S k lf rt) i j ∧ j < S.1.length := by
        intro j r
        induction r with
        | refl => exact ⟨.refl, hi⟩
        | step r1 hk ih =>
          simp only [if_pos ih.2] at hk
          exact ⟨ih.1.step hk, hs _ ih.2 _ hk⟩
      exact (this j r).1
    · have : ∀ j, Rch (stpM rows S k lf rt) i j → Rch (fun j => if j < S.1.length then stpM rows S k lf rt j else []) i j ∧ j < S.1.length := by
        intro j r
        induction r with
        | refl => exact ⟨.refl, hi⟩
        | step r1 hk ih => exact ⟨ih.1.step (by simp only [if_pos ih.2]; exact hk), hs _ ih.2 _ hk⟩
      exact (this j (rch_of_blw v W hi b)).1
  have hb : ∀ i, i < S.1.length → brw (belM rows S k lf rt) i = rowB (stpM rows S k lf rt) S.1.length i := fun i hi => by simp [brw, belM, List.getD_eq_getElem?_getD, hi]
  refine ⟨⟨by simp [belM], fun i hi => by rw [hb i hi]; exact (key i hi).1⟩, fun i j hi hj => ?_⟩
  rw [mth, hb i hi]
  have := (key i hi).2 j hj
  by_cases q : Blw rows S k lf rt i j
  · rw [this.2 q, decide_eq_true q]
  · rw [decide_eq_false q, Bool.eq_false_iff]; exact fun e => q (this.1 e)
end Go.Proofs.Ythnpflkpjimkfaa

/-
  CLASSES: what the program returns. Conditions: none.
-/
namespace Go.Proofs.Ythnpflkpjimkfaa
open Go.AM
open Go.Proofs.Try (prog)
set_option linter.all false
set_option maxRecDepth 100000
set_option maxHeartbeats 8000000
structure Eqv (E : Nat → Nat → Bool) (n : Nat) : Prop where
  rf : ∀ i, i < n → E i i = true
  sy : ∀ i j, i < n → j < n → E i j = true → E j i = true
  tr : ∀ i j k, i < n → j < n → k < n → E i j = true → E j k = true → E i k = true
def frstB (E : Nat → Nat → Bool) (i : Nat) : Bool := !(List.range i).any fun j => E j i
def clsR (E : Nat → Nat → Bool) (n c : Nat) : List (List Nat) := ((List.range c).filter (frstB E)).map fun i => (List.range n).filter (E i)
def clsL (E : Nat → Nat → Bool) (n : Nat) : List (List Nat) := clsR E n n
theorem clsR_succ (E : Nat → Nat → Bool) (n c : Nat) : clsR E n (c + 1) = clsR E n c ++ if frstB E c = true then [(List.range n).filter (E c)] else [] := by
  rw [clsR, clsR, List.range_succ, List.filter_append, List.map_append]
  congr 1
  by_cases q : frstB E c = true <;> simp [q]
def clV (S : SM) (c : List Nat) : List AV := c.map fun j => .str (wrd S j)
def clF (S : SM) (c : List Nat) : AV := .fsl false c.length (clV S c)
def clsV (S : SM) (l : List (List Nat)) : AV := .fsl false l.length (l.map (clF S))
theorem clV_closed (S : SM) (c : List Nat) : closedL (clV S c) = true := by
  induction c with
  | nil => rfl
  | cons a c ih => simp only [clV, List.map_cons, closedL] at ih ⊢; rw [ih]; rfl
noncomputable def KC0 : List Item := [.code brand_monoid_classes.r17, .code .ret]
noncomputable def KC2 : List Item := .code brand_monoid_classes.r15 :: .inBlock 1 :: .code brand_monoid_classes.r16 :: .inLoop brand_monoid_classes.l0 :: .inBlock 0 :: KC0
theorem cl_in {nv gv : AV} {rows : List (List Int)} {k : Nat} {S : SM} (W : MW rows k S) {D : MB} (hD : Wf S.1.length D) {E : Nat → Nat → Bool} (hE : ∀ i j, i < S.1.length → j < S.1.length → (mth D i j && mth D j i) = E i j) {Z i lo : Nat} (hi : i < S.1.length) (hZ : Z < lo) {o : AV} {r : Option Res} :
    ∀ (c j : Nat) (h : Nat → Option AObj) (nx0 : Nat) (w : AV) (sn : List Bool), j + c = S.1.length → h Z = some (.cells (bls sn)) → sn.length = S.1.length → Nl h w (clV S ((List.range j).filter (E i))) lo nx0 → lo ≤ nx0 → (w = .nils → (List.range j).filter (E i) = []) →
    (∀ h' nx' w' sn', h' Z = some (.cells (bls sn')) → sn'.length = S.1.length → (∀ j', j' < S.1.length → bnth sn' j' = (bnth sn j' || (decide (j ≤ j') && E i j'))) → Nl h' w' (clV S ((List.range S.1.length).filter (E i))) lo nx' → nx0 ≤ nx' → (∀ y, y < lo → y ≠ Z → h' y = h y) →
      brand_monoid_classes.L2 (monV nv gv S) (mbV S.1.length D) (.sl Z 1 0 S.1.length S.1.length) o (.int .i64 i) w' (.int .i64 S.2.length) (.int .i64 i) (wdsV S) (.int .i64 S.2.length) (.int .i64 S.1.length) ⟨h', nx'⟩ KC2 = r) →
    brand_monoid_classes.L2 (monV nv gv S) (mbV S.1.length D) (.sl Z 1 0 S.1.length S.1.length) o (.int .i64 i) w (.int .i64 S.2.length) (.int .i64 i) (wdsV S) (.int .i64 S.2.length) (.int .i64 j) ⟨h, nx0⟩ KC2 = r := by
  intro c
  have hle := W.ok.le
  have hlen := W.ok.len
  induction c with
  | zero =>
    intro j h nx0 w sn h1 h0 hl N hlo hwn hk
    have e : j = S.1.length := by omega
    subst e
    exact hk h nx0 w sn h0 hl (fun j' hj' => by rw [show decide (S.1.length ≤ j') = false from decide_eq_false (by omega)]; simp) N (Nat.le_refl _) (fun _ _ _ => rfl)
  | succ c ih =>
    intro j h nx0 w sn h1 h0 hl N hlo hwn hk
    have hj : j < S.1.length := by omega
    have hj2 : j < S.2.length := by omega
    have hwj : IntKind.wrap .i64 ((j : Int) + 1) = (j : Int) + 1 := wrap_id (by omega) (by omega)
    obtain ⟨w1, w2, w3, w4⟩ := W.wok hj
    have hdw : ((S.2.map AV.str).drop j).head? = some (.str (wrd S j)) := by rw [List.head?_drop, List.getElem?_map, w1]; rfl
    have m1 := mbV_head (n := S.1.length) (i := i) (L := D) (by rw [hD.l]; exact hi)
    have m2 := mbV_head (n := S.1.length) (i := j) (L := D) (by rw [hD.l]; exact hj)
    have b1 := bls_head (bs := brw D i) (i := j) (by rw [hD.r i hi]; exact hj)
    have b2 := bls_head (bs := brw D j) (i := i) (by rw [hD.r j hj]; exact hi)
    have q1 : bnth (brw D i) j = mth D i j := rfl
    have q2 : bnth (brw D j) i = mth D j i := rfl
    rw [q1] at b1
    rw [q2] at b2
    have hEij := hE i j hi hj
    have hflt : (List.range (j + 1)).filter (E i) = (List.range j).filter (E i) ++ if E i j = true then [j] else [] := by
      rw [List.range_succ, List.filter_append]; by_cases q : E i j = true <;> simp [q]
    have hfl : ((List.range j).filter (E i)).length ≤ j := by have := List.length_filter_le (E i) (List.range j); simpa using this
    cases qE : E i j with
    | false =>
      rw [qE] at hflt hEij
      simp only [Bool.false_eq_true, if_false, List.append_nil] at hflt
      have st := ih (j + 1) h nx0 w sn (by omega) h0 hl (by rw [hflt]; exact N) hlo (by rw [hflt]; exact hwn) (fun h' nx' w' sn' f1 f2 f3 f4 f5 f6 => hk h' nx' w' sn' f1 f2 (fun j' hj' => by
        rw [f3 j' hj']
        by_cases e : j' = j
        · subst e; rw [qE]; simp
        · congr 2; rw [decide_eq_decide]; omega) f4 f5 f6)
      simp only [Int.natCast_add, Int.cast_ofNat_Int] at st
      rw [brand_monoid_classes.L2_eq]
      simp only [mbV, wdsV, hD.l] at st ⊢
      cases e1 : mth D i j with
      | false =>
        rw [e1] at b1
        simp [hj2, hdw, hi, hj, m1, b1, hwj, -List.head?_drop, -List.map_drop]
        exact st
      | true =>
        rw [e1] at b1
        rw [e1, Bool.true_and] at hEij
        rw [hEij] at b2
        simp [hj2, hdw, hi, hj, m1, m2, b1, b2, hwj, -List.head?_drop, -List.map_drop]
        exact st
    | true =>
      rw [qE] at hflt hEij
      simp only [if_true] at hflt
      rw [Bool.and_eq_true] at hEij
      rw [hEij.1] at b1
      rw [hEij.2] at b2
      have hcv : clV S ((List.range j).filter (E i)) ++ [.str (wrd S j)] = clV S ((List.range (j + 1)).filter (E i)) := by rw [hflt]; simp [clV]
      obtain ⟨w', h', nx', g1, g2, g3, g4, g5, g6, g7⟩ := N.app (nx := nx0) (by' := 16) (Nat.le_refl _) hlo (by simp [clV]; omega) (.str (wrd S j))
      rw [hcv] at g2
      have low : ∀ y, y < lo → h' y = h y := fun y hy => g6 y (fun e => by
        rcases g5 y e with q | q
        · have := N.oid q; omega
        · omega)
      have hZ' : h' Z = some (.cells (bls sn)) := by rw [low Z hZ, h0]
      have st := ih (j + 1) (upd h' Z (some (.cells (bls (sn.set j true))))) nx' w' (sn.set j true) (by omega) (by simp) (by simp [hl]) (g2.fr (fun y y1 y2 _ => updNe (by omega)) (Nat.le_refl _)) (by omega) (fun e => absurd e g7) (fun h2 nx2 w2 sn2 f1 f2 f3 f4 f5 f6 => hk h2 nx2 w2 sn2 f1 f2 (fun j' hj' => by
        rw [f3 j' hj', bnth_set (by omega)]
        by_cases e : j = j'
        · subst e; rw [if_pos rfl, qE]; simp
        · rw [if_neg e]; congr 2; rw [decide_eq_decide]; omega) f4 (by omega) (fun y y1 y2 => by rw [f6 y y1 y2, updNe y2, low y y1]))
      simp only [Int.natCast_add, Int.cast_ofNat_Int] at st
      rw [brand_monoid_classes.L2_eq]
      simp only [mbV, wdsV, hD.l] at st ⊢
      simp [hj2, hdw, hi, hj, m1, m2, b1, b2, N.one, g1, hZ', hl, bls_set, hwj, -List.head?_drop, -List.map_drop]
      exact st
end Go.Proofs.Ythnpflkpjimkfaa

/-
  CLASSES: all of them. Conditions: none.
-/
namespace Go.Proofs.Ythnpflkpjimkfaa
open Go.AM
open Go.Proofs.Try (prog)
set_option linter.all false
set_option maxRecDepth 100000
set_option maxHeartbeats 8000000
theorem clF_deep (S : SM) (c : List Nat) (h : Nat → Option AObj) (d : Nat) : AM.deep h (d + 1) (clF S c) = some (clF S c) := rfl
theorem cl_out {nv gv : AV} {rows : List (List Int)} {k : Nat} {S : SM} (W : MW rows k S) {D : MB} (hD : Wf S.1.length D) {E : Nat → Nat → Bool} (hE : ∀ i j, i < S.1.length → j < S.1.length → (mth D i j && mth D j i) = E i j) (eq : Eqv E S.1.length) {Z lo : Nat} (hZ : Z < lo) :
    ∀ (c i : Nat) (h : Nat → Option AObj) (nx0 : Nat) (o : AV) (sn : List Bool), i + c = S.1.length → h Z = some (.cells (bls sn)) → sn.length = S.1.length → (∀ j', j' < S.1.length → bnth sn j' = (List.range i).any fun j => E j j') → Nl h o ((clsR E S.1.length i).map (clF S)) lo nx0 → lo ≤ nx0 → (0 < i → o ≠ .nils) → (clsR E S.1.length i).length ≤ i →
    brand_monoid_classes.L0 (monV nv gv S) (mbV S.1.length D) (.sl Z 1 0 S.1.length S.1.length) o (.int .i64 S.2.length) (.int .i64 i) ⟨h, nx0⟩ KC0 = some (clsV S (clsL E S.1.length), Mem.empty) := by
  intro c
  have hle := W.ok.le
  have hlen := W.ok.len
  have hpos := W.pos
  induction c with
  | zero =>
    intro i h nx0 o sn h1 h0 hl hsn N hlo hon hcl
    have e : i = S.2.length := by omega
    subst e
    have hd := N.deep 5 (fun x hx => by
      simp only [List.mem_map] at hx
      obtain ⟨b, _, rfl⟩ := hx
      exact clF_deep S b h 4) (hon (by omega))
    have e2 : clsL E S.1.length = clsR E S.1.length S.2.length := by rw [clsL, hlen]
    rw [brand_monoid_classes.L0_eq]
    simp [KC0, hd, clsV, e2]
    done
  | succ c ih =>
    intro i h nx0 o sn h1 h0 hl hsn N hlo hon hcl
    have hi : i < S.1.length := by omega
    have hi2 : i < S.2.length := by omega
    have hwi : IntKind.wrap .i64 ((i : Int) + 1) = (i : Int) + 1 := wrap_id (by omega) (by omega)
    have hany : ∀ j', ((List.range (i + 1)).any fun j => E j j') = (((List.range i).any fun j => E j j') || E i j') := fun j' => by rw [List.range_succ, List.any_append]; simp
    have hsc : (bls sn)[i]? = some (.bool (bnth sn i)) := by
      have : i < sn.length := by omega
      simp [bls, bnth, this, List.getD_eq_getElem?_getD]
    have hsi := hsn i hi
    cases q : (List.range i).any fun j => E j i with
    | true =>
      rw [q] at hsi
      rw [hsi] at hsc
      have hsx := (List.getElem?_eq_some_iff.1 hsc).2
      have hf : frstB E i = false := by rw [frstB, q]; rfl
      have e1 : clsR E S.1.length (i + 1) = clsR E S.1.length i := by rw [clsR_succ, hf]; simp
      obtain ⟨j0, hj0, hE0⟩ := List.any_eq_true.1 q
      have hj0 : j0 < i := by simpa using hj0
      have st := ih (i + 1) h nx0 o sn (by omega) h0 hl (fun j' hj' => by
        rw [hsn j' hj', hany]
        cases w : E i j' with
        | false => simp
        | true =>
          rw [Bool.or_true]
          exact List.any_eq_true.2 ⟨j0, by simpa using hj0, eq.tr j0 i j' (by omega) hi hj' hE0 w⟩) (by rw [e1]; exact N) hlo (fun _ => hon (by omega)) (by rw [e1]; omega)
      simp only [Int.natCast_add, Int.cast_ofNat_Int] at st
      rw [brand_monoid_classes.L0_eq]
      simp [hi2, hi, h0, hl, hsx, hwi]
      exact st
    | false =>
      rw [q] at hsi
      rw [hsi] at hsc
      have hsx := (List.getElem?_eq_some_iff.1 hsc).2
      have hf : frstB E i = true := by rw [frstB, q]; rfl
      have e1 : clsR E S.1.length (i + 1) = clsR E S.1.length i ++ [(List.range S.1.length).filter (E i)] := by rw [clsR_succ, hf]; simp
      have st := cl_in (nv := nv) (gv := gv) W hD hE (Z := Z) (lo := nx0) hi (by omega) (o := o) (r := some (clsV S (clsL E S.1.length), Mem.empty)) S.1.length 0 h nx0 .nils sn (by omega) h0 hl .nil (Nat.le_refl _) (fun _ => rfl) (fun h' nx' w' sn' f1 f2 f3 f4 f5 f6 => by
        have hmem : i ∈ (List.range S.1.length).filter (E i) := by simp [hi, eq.rf i hi]
        obtain ⟨R, rfl, w1, w2, w3⟩ := f4.sl (f4.nn (by
          intro e
          have := congrArg List.length e
          simp only [clV, List.length_map, List.length_nil] at this
          have := List.length_pos_of_mem hmem
          omega))
        have lcl : (clV S ((List.range S.1.length).filter (E i))).length = ((List.range S.1.length).filter (E i)).length := by simp [clV]
        have N2 : Nl (upd h' R none) o ((clsR E S.1.length i).map (clF S)) lo nx0 := N.fr (fun y y1 y2 _ => by rw [updNe (by omega), f6 y (by omega) (by omega)]) (Nat.le_refl _)
        obtain ⟨o', h2, n2, g1, g2, g3, g4, g5, g6, g7⟩ := N2.app (nx := nx') (by' := 24) (by omega) (by omega) (by simp; omega) (clF S ((List.range S.1.length).filter (E i)))
        have hZ2 : h2 Z = some (.cells (bls sn')) := by
          rw [g6 Z (fun e => by
            rcases g5 Z e with q | q
            · have := N.oid q; omega
            · omega), updNe (by omega), f1]
        have st2 := ih (i + 1) h2 n2 o' sn' (by omega) hZ2 f2 (fun j' hj' => by rw [f3 j' hj', hsn j' hj', hany]; simp) (by rw [e1, List.map_append]; exact g2) (by omega) (fun _ => g7) (by rw [e1]; simp; omega)
        simp only [Int.natCast_add, Int.cast_ofNat_Int] at st2
        have tk : (clV S ((List.range S.1.length).filter (E i))).take ((List.range S.1.length).filter (E i)).length = clV S ((List.range S.1.length).filter (E i)) := List.take_of_length_le (by omega)
        simp only [clF] at g1
        rw [brand_monoid_classes.L2_eq]
        simp only [wdsV]
        simp [KC2, ← hlen, w1, lcl, clV_closed, tk, N.one, g1, hwi]
        simp only [wdsV, ← hlen] at st2
        exact st2)
      simp only [Int.ofNat_zero, Int.cast_ofNat_Int] at st
      rw [brand_monoid_classes.L0_eq]
      simp only [wdsV, monV] at st ⊢
      simp [hi2, hi, h0, hl, hsx]
      exact st
theorem classes_spec {nv gv : AV} {ps : List AV} {rows : List (List Int)} {good : List Bool} {k : Nat} (hn : IsRows nv ps rows) (hg : IsB gv good) (v : VB rows good k) {S : SM} (W : MW rows k S) (lf rt : Bool) {E : Nat → Nat → Bool} (hE : ∀ i j, i < S.1.length → j < S.1.length → (mth (belM rows S k lf rt) i j && mth (belM rows S k lf rt) j i) = E i j) (eq : Eqv E S.1.length) (m : Mem) :
    denC prog ann 89 [monV nv gv S, .bool lf, .bool rt] m = some (clsV S (clsL E S.1.length), m) := by
  have hle := W.ok.le
  have hlen := W.ok.len
  have hb := fun m => below_spec hn hg v W lf rt m
  obtain ⟨hD, _⟩ := belM_law v W lf rt
  have st := cl_out (nv := nv) (gv := gv) W hD hE eq (Z := 0) (lo := 1) (by omega) S.1.length 0 (upd Mem.empty.h 0 (some (.cells (List.replicate S.1.length (.bool false))))) 1 .nils (List.replicate S.1.length false) (by omega) (by simp [bls]) (by simp) (fun j' hj' => by simp [bnth, List.getD_eq_getElem?_getD, hj']) .nil (by omega) (by omega) (by simp [clsR])
  simp only [Int.ofNat_zero, Int.cast_ofNat_Int, KC0] at st
  rw [monV, brand_monoid_classes.call_eq _ _ _ _ (by simp)]
  simp only [wdsV, monV] at st hb ⊢
  simp [← hlen, hb, show S.1.length ≤ 4611686018427387904 by omega, show S.1.length ≤ 70368744177664 by omega]
  simp only [← hlen] at st
  simp [← hlen] at hb
  first
    | (rw [st]; rfl)
    | (simp [hb, show S.1.length ≤ 4611686018427387904 by omega, show S.1.length ≤ 70368744177664 by omega]; rw [st]; rfl)
end Go.Proofs.Ythnpflkpjimkfaa

/-
  CLASSES: Left, Right, Classes; lists of lists that are the same. Conditions: none.
-/
namespace Go.Proofs.Ythnpflkpjimkfaa
open Go.AM
open Go.Proofs.Try (prog)
set_option linter.all false
set_option maxRecDepth 100000
set_option maxHeartbeats 8000000
theorem Rch.trans {stp : Nat → List Nat} {i j k : Nat} (h : Rch stp i j) (g : Rch stp j k) : Rch stp i k := by
  induction g with
  | refl => exact h
  | step _ hk ih => exact ih.step hk
section
variable {rows : List (List Int)} {good : List Bool} {k : Nat} {S : SM}
theorem Blw.rf (W : MW rows k S) {lf rt : Bool} {i : Nat} (hi : i < S.1.length) : Blw rows S k lf rt i i := ⟨[], [], okW_nil k, okW_nil k, fun _ => rfl, fun _ => rfl, by simpa using W.self hi⟩
theorem Blw.tr (v : VB rows good k) (W : MW rows k S) {lf rt : Bool} {i j l : Nat} (hi : i < S.1.length) (hj : j < S.1.length) (h : Blw rows S k lf rt i j) (g : Blw rows S k lf rt j l) : Blw rows S k lf rt i l :=
  blw_of_rch v W hi ((rch_of_blw v W hi h).trans (rch_of_blw v W hj g))
open Classical in
noncomputable def eqB (rows : List (List Int)) (S : SM) (k : Nat) (lf rt : Bool) (i j : Nat) : Bool := decide (Blw rows S k lf rt i j) && decide (Blw rows S k lf rt j i)
theorem eqB_eqv (v : VB rows good k) (W : MW rows k S) (lf rt : Bool) : Eqv (eqB rows S k lf rt) S.1.length := by
  refine ⟨fun i hi => ?_, fun i j _ _ h => ?_, fun i j l hi hj hl h g => ?_⟩
  · simp [eqB, Blw.rf W hi]
  · simp only [eqB, Bool.and_eq_true, decide_eq_true_eq] at h ⊢
    exact ⟨h.2, h.1⟩
  · simp only [eqB, Bool.and_eq_true, decide_eq_true_eq] at h g ⊢
    exact ⟨h.1.tr v W hi hj g.1, g.2.tr v W hl hj h.2⟩
end
noncomputable def clsM (rows : List (List Int)) (S : SM) (k : Nat) (lf rt : Bool) : List (List Nat) := clsL (eqB rows S k lf rt) S.1.length
theorem classed_spec {nv gv : AV} {ps : List AV} {rows : List (List Int)} {good : List Bool} (hn : IsRows nv ps rows) (hg : IsB gv good) (hl : rows.length ≤ 1000) (hgl : good.length ≤ 1000) (hr : ∀ i, i < rows.length → (cth rows i).length ≤ 1000) (lf rt : Bool) (m : Mem) :
    denC prog ann 76 [.agg [nv, gv], .bool lf, .bool rt] m = some (if validB rows good = true then (match madeB rows good (cth rows 0).length with | some S => .tup [clsV S (clsM (rowsM rows good (cth rows 0).length) S (cth rows 0).length lf rt), .int .i64 0] | none => .tup [.nils, .int .i64 7]) else .tup [.nils, .int .i64 1], m) := by
  have h1 := fun m => made_spec hn hg hl hgl hr m
  rw [brand_classed.call_eq _ _ _ _ (by simp [hn.closed, hg.closed])]
  cases c0 : validB rows good with
  | false =>
    rw [c0] at h1
    simp [hn.one, hg.one, hn.closed, hg.closed, h1]
    done
  | true =>
    rw [c0, if_pos rfl] at h1
    have v := VB.of c0
    cases e : madeB rows good (cth rows 0).length with
    | none =>
      rw [e] at h1
      simp only [mdR] at h1
      simp [hn.one, hg.one, hn.closed, hg.closed, h1]
      done
    | some S =>
      have W := MW_of v e
      have vm := VB_M v
      rw [e] at h1
      simp only [mdR, monV] at h1
      have hc := fun m => classes_spec (isRows_M rows good (cth rows 0).length) (isB_M rows good (cth rows 0).length) vm W lf rt (E := eqB (rowsM rows good (cth rows 0).length) S (cth rows 0).length lf rt) (fun i j hi hj => by rw [(belM_law vm W lf rt).2 i j hi hj, (belM_law vm W lf rt).2 j i hj hi, eqB]) (eqB_eqv vm W lf rt) m
      simp only [monV, clsV] at hc
      simp [hn.one, hg.one, hn.closed, hg.closed, h1, hc, clsV, clsM]
      done
def IsSS (v : AV) (l : List (List (List UInt8))) : Prop := (v = .nils ∧ l = []) ∨ ∃ ex cs, v = .fsl ex l.length cs ∧ cs.length = l.length ∧ ∀ i (hi : i < l.length), ∃ x, cs[i]? = some x ∧ IsS x l[i]
theorem IsSS.len {v : AV} {l : List (List (List UInt8))} (h : IsSS v l) : lenSl v = some (.int .i64 l.length) := by rcases h with ⟨rfl, rfl⟩ | ⟨_, _, rfl, _⟩ <;> rfl
theorem IsSS.closed {v : AV} {l : List (List (List UInt8))} (h : IsSS v l) : v.closed = true := by rcases h with ⟨rfl, rfl⟩ | ⟨_, _, rfl, _⟩ <;> rfl
theorem IsSS.one {v : AV} {l : List (List (List UInt8))} (h : IsSS v l) : v.one = true := by rcases h with ⟨rfl, rfl⟩ | ⟨_, _, rfl, _⟩ <;> rfl
theorem IsSS.at {v : AV} {l : List (List (List UInt8))} (h : IsSS v l) {i : Nat} (hi : i < l.length) : ∃ cs x, idxSl 1 v (.int .i64 (i : Int)) = some (.fptr cs) ∧ cs.head? = some x ∧ IsS x l[i] := by
  rcases h with ⟨rfl, rfl⟩ | ⟨_, cs, rfl, h1, h2⟩
  · simp at hi
  · obtain ⟨x, hx, hs⟩ := h2 i hi
    exact ⟨cs.drop i, x, by simp [hi], by rw [List.head?_drop]; exact hx, hs⟩
theorem clsL_few (E : Nat → Nat → Bool) (n : Nat) : (clsL E n).length ≤ n ∧ ∀ c ∈ clsL E n, c.length ≤ n := by
  refine ⟨?_, fun c hc => ?_⟩
  · have := List.length_filter_le (frstB E) (List.range n)
    simpa [clsL, clsR] using this
  · simp only [clsL, clsR, List.mem_map] at hc
    obtain ⟨i, _, rfl⟩ := hc
    have := List.length_filter_le (E i) (List.range n)
    simpa using this
end Go.Proofs.Ythnpflkpjimkfaa

/-
  BELOW: the specification's. Conditions: none.
-/
namespace Go.Proofs.Ythnpflkpjimkfaa
open Go.AM
open Go.Proofs.Try (prog)
set_option linter.all false
set_option maxRecDepth 100000
set_option maxHeartbeats 8000000
theorem pr_lt {rows : List (List Int)} {good : List Bool} {k : Nat} (v : VB rows good k) {S : SM} (W : MW rows k S) {i j : Nat} (hi : i < S.1.length) (hj : j < S.1.length) : pr rows S i j < S.1.length := by
  obtain ⟨_, w1, _, _⟩ := W.wok hi
  obtain ⟨_, w2, _, _⟩ := W.wok hj
  exact W.lt v.n6 v.k3 (okW_app w1 w2)
end Go.Proofs.Ythnpflkpjimkfaa

/-
  BELOW: what the specification's marks mean. Conditions: none.
-/
namespace Go.Proofs.Ythnpflkpjimkfaa
open Go.AM
open Go.Proofs.Try (prog)
set_option linter.all false
set_option maxRecDepth 100000
set_option maxHeartbeats 8000000
section
variable {rows : List (List Int)} {good : List Bool} {k : Nat} {S : SM}
theorem num_l (v : VB rows good k) {w w' x : List UInt8} (hw : okW k w) (hw' : okW k w') (h : mv6 rows w = mv6 rows w') : numM rows S (w ++ x) = numM rows S (w' ++ x) := by
  have := num_congr (S := S) v (u := []) (x := x) (okW_nil k) hw hw' h
  simpa using this
theorem num_r (v : VB rows good k) {u w w' : List UInt8} (hu : okW k u) (hw : okW k w) (hw' : okW k w') (h : mv6 rows w = mv6 rows w') : numM rows S (u ++ w) = numM rows S (u ++ w') := by
  have := num_congr (S := S) v (u := u) (x := []) hu hw hw' h
  simpa using this
theorem wrd_ok (W : MW rows k S) {i : Nat} (hi : i < S.1.length) : okW k (wrd S i) := (W.wok hi).2.1
theorem pr_nums (v : VB rows good k) (W : MW rows k S) {u w : List UInt8} (hu : okW k u) (hw : okW k w) : pr rows S (numM rows S u) (numM rows S w) = numM rows S (u ++ w) := by
  have n6 := v.n6
  have k3 := v.k3
  have o1 := wrd_ok W (W.lt n6 k3 hu)
  have o2 := wrd_ok W (W.lt n6 k3 hw)
  rw [pr, num_l v o1 hu (wrd_num v W hu), num_r v hu o2 hw (wrd_num v W hw)]
theorem pr_numl (v : VB rows good k) (W : MW rows k S) {u : List UInt8} {j : Nat} (hu : okW k u) (hj : j < S.1.length) : pr rows S (numM rows S u) j = numM rows S (u ++ wrd S j) := by
  have n6 := v.n6
  have k3 := v.k3
  have o1 := wrd_ok W (W.lt n6 k3 hu)
  rw [pr, num_l v o1 hu (wrd_num v W hu)]
theorem pr_numr (v : VB rows good k) (W : MW rows k S) {u : List UInt8} {j : Nat} (hu : okW k u) (hj : j < S.1.length) : pr rows S j (numM rows S u) = numM rows S (wrd S j ++ u) := by
  have n6 := v.n6
  have k3 := v.k3
  have o1 := wrd_ok W (W.lt n6 k3 hu)
  rw [pr, num_r v (wrd_ok W hj) o1 hu (wrd_num v W hu)]
theorem pr_assoc (v : VB rows good k) (W : MW rows k S) {a b c : Nat} (ha : a < S.1.length) (hb : b < S.1.length) (hc : c < S.1.length) : pr rows S (pr rows S a b) c = pr rows S a (pr rows S b c) := by
  have oa := wrd_ok W ha
  have ob := wrd_ok W hb
  have oc := wrd_ok W hc
  show pr rows S (numM rows S (wrd S a ++ wrd S b)) c = pr rows S a (numM rows S (wrd S b ++ wrd S c))
  rw [pr_numl v W (okW_app oa ob) hc, pr_numr v W (okW_app ob oc) ha, List.append_assoc]
theorem blw_b (v : VB rows good k) (W : MW rows k S) {y j : Nat} (hy : y < S.1.length) : Blw rows S k true true y j ↔ ∃ z, z < S.1.length ∧ ∃ w, w < S.1.length ∧ pr rows S (pr rows S z y) w = j := by
  constructor
  · rintro ⟨u, w, hu, hw, _, _, h⟩
    refine ⟨numM rows S u, W.lt v.n6 v.k3 hu, numM rows S w, W.lt v.n6 v.k3 hw, ?_⟩
    rw [pr_numl v W hu hy, pr_nums v W (okW_app hu (wrd_ok W hy)) hw, h]
  · rintro ⟨z, hz, w, hw, h⟩
    refine ⟨wrd S z, wrd S w, wrd_ok W hz, wrd_ok W hw, (by simp), (by simp), ?_⟩
    have : pr rows S (numM rows S (wrd S z ++ wrd S y)) w = j := h
    rw [pr_numl v W (okW_app (wrd_ok W hz) (wrd_ok W hy)) hw] at this
    exact this
end
end Go.Proofs.Ythnpflkpjimkfaa

/-
  THE WORDS OF A MONOID ARE THE LEAST ONES: plain law. Conditions: none.
-/
namespace Go.Proofs.Ythnpflkpjimkfaa
open Go.AM
open Go.Proofs.Try (prog)
set_option linter.all false
set_option maxRecDepth 100000
set_option maxHeartbeats 8000000
def rk (w : List UInt8) : Nat := w.foldl (fun n c => n * 256 + (c.toNat + 1)) 0
theorem rk_snoc (w : List UInt8) (c : UInt8) : rk (w ++ [c]) = rk w * 256 + (c.toNat + 1) := by simp [rk]
theorem rk_nil : rk [] = 0 := rfl
theorem snoc_of {α : Type} : ∀ (l : List α), l ≠ [] → ∃ p x, l = p ++ [x]
  | [], h => absurd rfl h
  | [a], _ => ⟨[], a, rfl⟩
  | a :: b :: l, _ => by
    obtain ⟨p, x, e⟩ := snoc_of (b :: l) (by simp)
    exact ⟨a :: p, x, by rw [e]; rfl⟩
theorem rk_len : ∀ (n : Nat) (u w : List UInt8), u.length = n → u.length < w.length → rk u < rk w
  | 0, u, w, hu, h => by
    have : u = [] := List.length_eq_zero_iff.1 hu
    subst this
    obtain ⟨p, x, rfl⟩ := snoc_of w (by intro e; subst e; simp at h)
    rw [rk_snoc, rk_nil]; omega
  | n + 1, u, w, hu, h => by
    obtain ⟨p, x, rfl⟩ := snoc_of u (by intro e; subst e; simp at hu)
    obtain ⟨q, y, rfl⟩ := snoc_of w (by intro e; subst e; simp at h)
    simp at hu h
    have := rk_len n p q hu h
    have hx := x.toNat_lt
    rw [rk_snoc, rk_snoc]
    omega
def rk0 (n : Nat) (w : List UInt8) : Nat := w.foldl (fun n c => n * 256 + (c.toNat + 1)) n
theorem rk0_eq : ∀ (w : List UInt8) (n : Nat), rk0 n w = n * 256 ^ w.length + rk w
  | [], n => by simp [rk0, rk]
  | c :: w, n => by
    have h1 := rk0_eq w (n * 256 + (c.toNat + 1))
    have h2 := rk0_eq w (0 * 256 + (c.toNat + 1))
    have e1 : rk0 n (c :: w) = rk0 (n * 256 + (c.toNat + 1)) w := rfl
    have e2 : rk (c :: w) = rk0 (0 * 256 + (c.toNat + 1)) w := rfl
    rw [e1, e2, h1, h2, List.length_cons, Nat.pow_succ]
    have : (n * 256 + (c.toNat + 1)) * 256 ^ w.length = n * (256 ^ w.length * 256) + (0 * 256 + (c.toNat + 1)) * 256 ^ w.length := by
      rw [Nat.add_mul, Nat.zero_mul, Nat.zero_add, Nat.mul_assoc, Nat.mul_comm 256]
    omega
theorem rk_cons (c : UInt8) (w : List UInt8) : rk (c :: w) = (c.toNat + 1) * 256 ^ w.length + rk w := by
  have e2 : rk (c :: w) = rk0 (0 * 256 + (c.toNat + 1)) w := rfl
  rw [e2, rk0_eq, Nat.zero_mul, Nat.zero_add]
theorem rk_near : ∀ (u w : List UInt8), u.length = w.length → rk u + 1 ≤ rk w + 256 ^ w.length
  | [], [], _ => by simp [rk]
  | [], _ :: _, h => by simp at h
  | _ :: _, [], h => by simp at h
  | a :: u, b :: w, h => by
    have ih := rk_near u w (by simpa using h)
    have hl : u.length = w.length := by simpa using h
    rw [rk_cons, rk_cons, List.length_cons, Nat.pow_succ, hl]
    have ha := a.toNat_lt
    generalize 256 ^ w.length = z at *
    have h1 : (a.toNat + 1) * z ≤ 256 * z := Nat.mul_le_mul_right _ (by omega)
    have h2 : z ≤ (b.toNat + 1) * z := Nat.le_mul_of_pos_left _ (by omega)
    omega
theorem rk_less : ∀ (u w : List UInt8), u.length = w.length → Op.bytesLess u w = true → rk u < rk w
  | [], [], _, h => by simp [Op.bytesLess] at h
  | [], _ :: _, h, _ => by simp at h
  | _ :: _, [], h, _ => by simp at h
  | a :: u, b :: w, h, g => by
    have hl : u.length = w.length := by simpa using h
    rw [rk_cons, rk_cons, hl]
    have nr := rk_near u w hl
    generalize hz : 256 ^ w.length = z at *
    rcases Nat.lt_trichotomy a.toNat b.toNat with c | c | c
    · have : (a.toNat + 1) * z + z ≤ (b.toNat + 1) * z := by
        rw [← Nat.succ_mul]; exact Nat.mul_le_mul_right _ (by omega)
      omega
    · have e : a = b := UInt8.toNat_inj.1 c
      subst e
      have g' : Op.bytesLess u w = true := by simpa [Op.bytesLess] using g
      have := rk_less u w hl g'
      omega
    · exfalso
      have h1 : ¬ a < b := by rw [UInt8.lt_iff_toNat_lt]; omega
      have h2 : ¬ a = b := fun e => by subst e; omega
      simp [Op.bytesLess, h1, h2] at g
      first | done | omega
section
variable {rows : List (List Int)} {k : Nat}
def OrI (rows : List (List Int)) (S : SM) (j b : Nat) : Prop := ∃ m, S.1[m]? = some (nxM rows (S.1.getD j []) b) ∧ rk (S.2.getD m []) ≤ rk (S.2.getD j []) * 256 + (98 + b)
theorem OrI.app {S : SM} {j b : Nat} (h : OrI rows S j b) (hl : S.1.length = S.2.length) (hj : j < S.1.length) (p : List (List Nat)) (q : List (List UInt8)) : OrI rows (S.1 ++ p, S.2 ++ q) j b := by
  obtain ⟨m, h1, h2⟩ := h
  have hm := (List.getElem?_eq_some_iff.1 h1).1
  have g1 : ∀ i, i < S.1.length → (S.1 ++ p).getD i [] = S.1.getD i [] := fun i hi => by simp [List.getD_eq_getElem?_getD, List.getElem?_append_left hi]
  have g2 : ∀ i, i < S.1.length → (S.2 ++ q).getD i [] = S.2.getD i [] := fun i hi => by
    have : i < S.2.length := by omega
    simp [List.getD_eq_getElem?_getD, List.getElem?_append_left this]
  refine ⟨m, ?_, ?_⟩
  · simp only []
    rw [g1 j hj, List.getElem?_append_left hm]; exact h1
  · simp only []
    rw [g2 m hm, g2 j hj]; exact h2
structure Srt (S : SM) (b : Nat) : Prop where
  l : S.1.length = S.2.length
  s : S.2.Pairwise fun u w => rk u < rk w
  b : ∀ y ∈ S.2, rk y < b
end
section
variable {rows : List (List Int)} {good : List Bool} {k : Nat} {S : SM}
structure Least (rows : List (List Int)) (k : Nat) (S : SM) : Prop where
  inc : ∀ i j, i < j → j < S.1.length → rk (wrd S i) < rk (wrd S j)
  le : ∀ w, okW k w → rk (wrd S (numM rows S w)) ≤ rk w
end
end Go.Proofs.Ythnpflkpjimkfaa

/-
  BODIES OF FUNCTIONS OF THE PROGRAM AS SMALL OPERATIONS (written by gen.py; checked by the kernel against the program). Conditions: none.
-/
namespace Go.Proofs.Ythnpflkpjimkfaa
open Go.AM
open Go.Proofs.Try (prog)
set_option maxRecDepth 100000
set_option linter.all false
end Go.Proofs.Ythnpflkpjimkfaa

/-
  BODIES OF FUNCTIONS OF THE PROGRAM AS SMALL OPERATIONS (written by gen.py; checked by the kernel against the program). Conditions: none.
-/
namespace Go.Proofs.Ythnpflkpjimkfaa
open Go.AM
open Go.Proofs.Try (prog)
set_option maxRecDepth 100000
set_option linter.all false
namespace r07_Less
noncomputable section
variable (K : List Item) (s : St)
def b : Code := (Try.f39.body).getD .skip
theorem hf : prog.funcs[39]? = some Try.f39 := by kernel_rfl
def r0 := findReg b 0
def r1 := findReg b 1
theorem b_eq : den prog ann 39 (.code b :: K) s = den prog ann 39 (.code r0 :: .code r1 :: .code .ret :: K) s := den_flat hf (l := [r0, r1, .ret]) (by kernel_rfl) K s
theorem r0_eq : den prog ann 39 (.code r0 :: K) s = mreg prog ann 39 none [] none [] [qF 4 fun s => some (.bool false)] K s := (den_reg hf _ K s).trans (by kernel_rfl)
theorem r1_eq : den prog ann 39 (.code r1 :: K) s = mreg prog ann 39 none [] none [] [qC 5 0,qA 6 lenStr 5,qC 7 1,qA 8 lenStr 7,qB 9 (binA prog .lss 3) 6 8,qC 10 9,⟨some 11, some (10, false), .v fun s => some (s.get 0)⟩,⟨some 12, some (10, false), .v fun s => lenStr (s.get 11)⟩,⟨some 13, some (10, false), .v fun s => some (s.get 1)⟩,⟨some 14, some (10, false), .v fun s => lenStr (s.get 13)⟩,⟨some 15, some (10, false), .v fun s => binA prog .eql 3 (s.get 12) (s.get 14)⟩,⟨some 16, some (10, false), .v fun s => some (s.get 15)⟩,⟨some 17, some (16, true), .v fun s => some (s.get 0)⟩,⟨some 18, some (16, true), .v fun s => some (s.get 1)⟩,⟨some 19, some (16, true), .v fun s => binA prog .lss 9 (s.get 17) (s.get 18)⟩,⟨some 20, some (10, false), .v fun s => pickA (s.get 16) (s.get 19) (.bool false)⟩,qF 21 fun s => pickA (s.get 10) (.bool true) (s.get 20),qC 4 21] K s := (den_reg hf _ K s).trans (by kernel_rfl)
theorem ret_eq : den prog ann 39 (.code .ret :: K) s = finM true [fun s => some (s.get 4)] s := (den_ret hf K s).trans (by kernel_rfl)
theorem nil_eq (s : St) : den prog ann 39 [] s = finM true [fun s => some (s.get 4)] s := (den_nil hf s).trans (by kernel_rfl)
theorem inBlock_eq (id : Nat) (K : List Item) (s : St) : den prog ann 39 (.inBlock id :: K) s = den prog ann 39 K s := den_inBlock hf id K s
theorem exit_eq (id : Nat) (K : List Item) (s : St) : den prog ann 39 (.code (.exit id) :: K) s = exitV prog ann 39 (exitTo id K) s := den_exitV hf id K s
theorem call_eq (v0 v1 : AV) (m : Mem) (h : closedL [v0, v1] = true) : denC prog ann 39 [v0, v1] m = (den prog ann 39 [.code b] ⟨[(0, v0), (1, v1)], 22, Mem.empty⟩).bind fun r => some (r.1, m) := (denC_pure hf (b := b) (by kernel_rfl) (by kernel_rfl) (by kernel_rfl) h m).trans (by kernel_rfl)
theorem pure_eq : (ann 39).pure = true := by kernel_rfl
attribute [simp] b_eq r0_eq r1_eq ret_eq nil_eq inBlock_eq exit_eq pure_eq
end
end r07_Less
end Go.Proofs.Ythnpflkpjimkfaa

/-
  WORDS OUT OF NUMBERS; THE ORDER OF WORDS: what the laws' functions return. Conditions: none.
-/
namespace Go.Proofs.Ythnpflkpjimkfaa
open Go.AM
open Go.Proofs.Try (prog)
set_option linter.all false
set_option maxRecDepth 100000
set_option maxHeartbeats 8000000
def lessW (x y : List UInt8) : Bool := decide (x.length < y.length) || (decide (x.length = y.length) && Op.bytesLess x y)
theorem less_spec (x y : List UInt8) (hx : x.length ≤ 1000000) (hy : y.length ≤ 1000000) (m : Mem) : denC prog ann 39 [.str x, .str y] m = some (.bool (lessW x y), m) := by
  rw [r07_Less.call_eq _ _ _ (by simp)]
  unfold lessW
  by_cases q : x.length < y.length
  · simp [q]
    done
  · by_cases q2 : x.length = y.length
    · simp [q2]
      done
    · have q2' : ¬ ((x.length : Nat) : Int) = (y.length : Nat) := by omega
      simp [q, q2, q2']
      done
theorem lessW_rk {x y : List UInt8} (h : lessW x y = true) : rk x < rk y := by
  unfold lessW at h
  rw [Bool.or_eq_true, Bool.and_eq_true, decide_eq_true_eq, decide_eq_true_eq] at h
  rcases h with h | ⟨h1, h2⟩
  · exact rk_len _ x y rfl h
  · exact rk_less x y h1 h2
end Go.Proofs.Ythnpflkpjimkfaa
