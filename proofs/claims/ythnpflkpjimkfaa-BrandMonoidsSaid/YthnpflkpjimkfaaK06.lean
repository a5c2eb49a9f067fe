/-
  ALL ELEMENTS OF A MONOID: the program's search. Conditions: none.
-/
import Derived.Test.YthnpflkpjimkfaaK05
set_option linter.all false
namespace Go.Proofs.Ythnpflkpjimkfaa
open Go.AM
open Go.Proofs.Try (prog)
set_option linter.all false
set_option maxRecDepth 100000
set_option maxHeartbeats 8000000

def natV (x : Nat) : AV := .int .i64 (x : Nat)
/-- The monoid as it grows: its cells, its words, its map. -/
structure Md (m : Mem) (M O : Nat) (nv gv wv : AV) (S : SM) (lo : Nat) : Prop where
  o : m.h M = some (.cells [nv, gv, wv, .map O])
  w : Nf m.h wv (S.2.map .str) lo m.nx
  p : Mp m O (S.1.map encM) ((List.range S.1.length).map natV)
  mo : M < lo ∧ O < lo ∧ M ≠ O
  x : isF wv = decide (S.2.length = 1)
noncomputable def KM0 : List Item := [.code brand_made.r20, .code .ret]
noncomputable def KM2 : List Item := .inBlock 1 :: .code brand_made.r7 :: .inLoop brand_made.l0 :: .inBlock 0 :: KM0
def monV (nv gv : AV) (S : SM) : AV := .fptr [nv, gv, .fsl (decide (S.2.length = 1)) S.2.length (S.2.map .str), .fmap (S.1.map encM) ((List.range S.1.length).map natV)]
theorem deep_md {m : Mem} {M O : Nat} {nv gv wv : AV} {S : SM} {lo : Nat} (D : Md m M O nv gv wv S lo) (n1 : ∀ hp d, AM.deep hp (d + 1) nv = some nv) (n2 : ∀ hp d, AM.deep hp (d + 1) gv = some gv) (e : Nat) : AM.deep m.h (e + 5) (.ptr M 0 4) = some (monV nv gv S) := by
  have he := D.w.deep (e + 3) (fun x hx => by
    simp only [List.mem_map] at hx
    obtain ⟨b, _, rfl⟩ := hx
    rfl)
  rw [D.x] at he
  obtain ⟨⟨g, hg⟩, _⟩ := D.p
  have k1 : mapO (AM.deep m.h (e + 3)) (S.1.map encM) = some (S.1.map encM) := mapO_same _ (fun x hx => by
    simp only [List.mem_map] at hx
    obtain ⟨b, _, rfl⟩ := hx
    simp [encM, encM_mapO])
  have k2 : mapO (AM.deep m.h (e + 3)) ((List.range S.1.length).map natV) = some ((List.range S.1.length).map natV) := mapO_same _ (fun x hx => by
    simp only [List.mem_map] at hx
    obtain ⟨b, _, rfl⟩ := hx
    rfl)
  simp at he
  simp [D.o, n1, n2, he, hg, k1, k2, monV]
theorem nat_flatL : ∀ t : List Nat, flatL (t.map fun x => AV.int .i64 (x : Nat)) = true
  | [] => rfl
  | a :: t => by simp [flatL, AV.flat1, AV.flat, nat_flatL t]
theorem dsV_flat (rows : List (List Int)) (w : List UInt8) : (dsV rows w).flat = true := by
  unfold dsV encM
  split
  · rfl
  · exact nat_flatL _
theorem dsV_deep (rows : List (List Int)) (w : List UInt8) (h : Nat → Option AObj) (d : Nat) : AM.deep h (d + 1) (dsV rows w) = some (dsV rows w) := by
  unfold dsV encM
  split
  · rfl
  · exact deep_encM h d 139 _
theorem encM_flat (t : List Nat) : (AV.agg (t.map fun x => AV.int .i64 (x : Nat))).flat = true := nat_flatL t
theorem md_in {nv gv : AV} {ps : List AV} {rows : List (List Int)} {good : List Bool} {k : Nat} (hn : IsRows nv ps rows) (hg : IsB gv good) (v : VB rows good k) {M O lo i : Nat} {w : List UInt8} {r : Option Res} :
    ∀ (c a : Nat) (m : Mem) (wv : AV) (S : SM), a + c = k → Md m M O nv gv wv S lo → lo ≤ m.nx → MOk rows k S → S.2[i]? = some w → i < 400 →
    (∀ S', bInM rows (mv6 rows w) w c a S = some S' → ∀ m' wv', Md m' M O nv gv wv' S' lo → lo ≤ m'.nx → brand_made.L0 (.ptr M 0 4) (.int .i64 ((i : Int) + 1)) m' KM0 = r) →
    (bInM rows (mv6 rows w) w c a S = none → r = some (.tup [.nilp, .int .i64 7], Mem.empty)) →
    brand_made.L2 (.ptr M 0 4) (.int .i64 i) (.int .i64 k) (.int .i64 a) m KM2 = r := by
  intro c
  have n6 := v.n6
  have k3 := v.k3
  induction c with
  | zero =>
    intro a m wv S h1 D hlo hS hw hi hk hf
    have e : a = k := by omega
    subst e
    have hwi : IntKind.wrap .i64 ((i : Int) + 1) = (i : Int) + 1 := wrap_id (by omega) (by omega)
    have hk := hk S rfl m wv D hlo
    rw [brand_made.L2_eq]
    simp [KM2, hwi]
    exact hk
  | succ c ih =>
    intro a m wv S h1 D hlo hS hw hi hk hf
    have ha : a < k := by omega
    have hwa : IntKind.wrap .i64 ((a : Int) + 1) = (a : Int) + 1 := wrap_id (by omega) (by omega)
    have hi2 := (List.getElem?_eq_some_iff.1 hw).1
    have hwm := List.mem_of_getElem? hw
    have hle := hS.le
    have hlen := hS.len
    have hlt := fun m => letter_spec (a := a) (by omega) m
    obtain ⟨h, nx0⟩ := m
    obtain ⟨p, hp1, hp2, _⟩ := D.w.at (i := i) (by simpa using hi2)
    have hs2 : (S.2.map AV.str)[i]? = some (.str w) := by simp [hw]
    rw [hs2] at hp2
    have hok := hS.ok w hwm
    have hoke := okW_ext hok.1 ha k3
    have hll : w.length + (ltr a).length ≤ 4611686018427387904 := by simp [ltr]; omega
    have hle1 : (extL w a).length ≤ 1000000 := by simp [extL, ltr]; omega
    have hd := deep_md D hn.deep hg.deep 1
    have hfl := (letF_iff k (extL w a)).2 hoke
    have hdo := fun m => does_spec (wv := .fsl (decide (S.2.length = 1)) S.2.length (S.2.map .str)) (ov := .fmap (S.1.map encM) ((List.range S.1.length).map natV)) hn hg v rfl rfl hle1 hfl m
    have htb := fun m => table_spec (wv := .fsl (decide (S.2.length = 1)) S.2.length (S.2.map .str)) (ov := .fmap (S.1.map encM) ((List.range S.1.length).map natV)) hn hg v rfl rfl (extL w a) m
    have et : nxM rows (mv6 rows w) a = mv6 rows (w ++ ltr a) := (mv6_ltr rows n6 w (by omega)).symm
    rw [bInM, et] at hk hf
    simp only [extL, encM] at hdo htb
    have hM : h M = some (.cells [nv, gv, wv, .map O]) := D.o
    have moM := D.mo
    simp only [monV] at hd hlo
    have hM2 : (M == nx0 + 11) = false := beq_eq_false_iff_ne.2 (by omega)
    have tlen : (mv6 rows (w ++ ltr a)).length = 6 := mv6_len _ _
    have tk : ((mv6 rows (w ++ ltr a)).map fun x => AV.int .i64 (x : Nat)).take 6 = (mv6 rows (w ++ ltr a)).map fun x => AV.int .i64 (x : Nat) := List.take_of_length_le (by simp)
    have P1 : Mp ⟨upd h (nx0 + 11) none, nx0 + 11 + 1 + 11⟩ O (S.1.map encM) ((List.range S.1.length).map natV) := D.p.fr (updNe (by omega)) (by show O < nx0 + 11 + 1 + 11; omega)
    have l1 := P1.look keysM (fun x hx => hS.six x hx) (by simp) tlen (.int .i64 0) true
    have wl := D.w.fr (h' := upd h (nx0 + 11) none) (hi' := nx0 + 11 + 1) (fun y y1 y2 _ => updNe (by have : y < nx0 := y2; omega)) (by show nx0 ≤ nx0 + 11 + 1; omega)
    by_cases hc : mv6 rows (w ++ ltr a) ∈ S.1
    · rw [if_pos hc] at hk hf
      obtain ⟨i', hi'⟩ := List.getElem?_of_mem hc
      have hi2' := (List.getElem?_eq_some_iff.1 hi').1
      have q1 := lkP_at (vs := List.range S.1.length) hS.nd hi' (w := i') (by simp [hi2'])
      rw [q1] at l1
      simp only [encM, natV] at l1
      have st := ih (a + 1) ⟨upd h (nx0 + 11) none, nx0 + 11 + 1 + 11⟩ wv S (by omega) ⟨by show upd h (nx0 + 11) none M = _; rw [updNe (by omega)]; exact hM, wl.fr (fun _ _ _ _ => rfl) (by show nx0 + 11 + 1 ≤ nx0 + 11 + 1 + 11; omega), P1, D.mo, D.x⟩ (by show lo ≤ nx0 + 11 + 1 + 11; omega) hS hw hi hk hf
      simp only [Int.natCast_add, Int.cast_ofNat_Int] at st
      rw [brand_made.L2_eq]
      simp [ha, hM, hM2, hp1, hp2, hlt, hll, hd, hdo, htb, dsV_flat, dsV_deep, encM_flat, encM_one, encM_closed, tk, l1, hwa, -deep_ptr]
      exact st
    · rw [if_neg hc] at hk hf
      have q1 := lkP_none (vs := List.range S.1.length) hc
      rw [q1] at l1
      simp only [encM, natV] at l1
      by_cases h400 : S.1.length = 400
      · rw [if_pos h400] at hf
        have hr := hf rfl
        have h4 : ((S.2.length : Nat) : Int) = 400 := by omega
        rw [hr, brand_made.L2_eq]
        simp [ha, hM, hM2, hp1, hp2, hlt, hll, hd, hdo, htb, dsV_flat, dsV_deep, encM_flat, encM_one, encM_closed, tk, l1, wl.len, h4, -deep_ptr]
        done
      · rw [if_neg h400] at hk hf
        have h4 : ¬ (S.2.length : Int) = 400 := by omega
        have P2 : Mp ⟨upd h (nx0 + 11) none, nx0 + 11 + 1 + 11 + 10⟩ O (S.1.map encM) ((List.range S.1.length).map natV) := D.p.fr (updNe (by omega)) (by show O < nx0 + 11 + 1 + 11 + 10; omega)
        obtain ⟨m2, p1, p2, p3, p4⟩ := P2.put keysM (fun x hx => hS.six x hx) (by simp) tlen hc S.2.length
        simp only [encM, natV] at p1
        have hm2M : m2.h M = some (.cells [nv, gv, wv, .map O]) := by rw [p4 M moM.2.2]; show upd h (nx0 + 11) none M = _; rw [updNe (by omega)]; exact hM
        have wl2 : Nf m2.h wv (S.2.map .str) lo (nx0 + 11 + 1) := wl.fr (fun y y1 y2 _ => p4 y (by omega)) (Nat.le_refl _)
        obtain ⟨wv', h3, nx', g1, g2, g3, g4, g5, g6, g7⟩ := wl2.app (nx := nx0 + 11 + 1 + 11 + 11) (by' := 16) (by omega) (by omega) (by simp; omega) (.str (w ++ ltr a))
        have low : ∀ y, y < lo → h3 y = m2.h y := fun y hy => g6 y (fun e => by
          rcases g5 y e with q | q
          · have := wl2.oid q; omega
          · omega)
        have h3M : h3 M = some (.cells [nv, gv, wv, .map O]) := by rw [low M moM.1]; exact hm2M
        have erng : List.range S.1.length ++ [S.2.length] = List.range (S.1 ++ [mv6 rows (w ++ ltr a)]).length := by
          rw [List.length_append, List.length_singleton, List.range_succ, hlen]
        have st := ih (a + 1) ⟨upd h3 M (some (.cells [nv, gv, wv', .map O])), nx'⟩ wv' (S.1 ++ [mv6 rows (w ++ ltr a)], S.2 ++ [extL w a]) (by omega)
          ⟨by simp, by
            show Nf (upd h3 M (some (.cells [nv, gv, wv', .map O]))) wv' ((S.2 ++ [extL w a]).map .str) lo nx'
            rw [List.map_append]
            exact g2.fr (fun y y1 y2 _ => updNe (by omega)) (Nat.le_refl _), by
            rw [erng] at p2
            exact p2.fr (by show upd h3 M (some (.cells [nv, gv, wv', .map O])) O = m2.h O; rw [updNe (Ne.symm moM.2.2), low O moM.2.1]) (by show O < nx'; omega), D.mo, by rw [g7]; exact (decide_eq_false (by show ¬ (S.2 ++ [extL w a]).length = 1; rw [List.length_append]; have := List.length_pos_of_mem hwm; simp only [List.length_singleton]; omega)).symm⟩ (by show lo ≤ nx'; omega)
          (by have := hS.add n6 k3 hwm ha (by rw [et]; exact hc) h400; rw [et] at this; exact this)
          (by rw [List.getElem?_append_left hi2]; exact hw) hi hk hf
        simp only [Int.natCast_add, Int.cast_ofNat_Int] at st
        rw [brand_made.L2_eq]
        simp [ha, hM, hM2, hp1, hp2, hlt, hll, hd, hdo, htb, dsV_flat, dsV_deep, encM_flat, encM_one, encM_closed, tk, l1, wl.len, h4, p1, hm2M, wl.one, g1, h3M, (show wv'.one = true from g2.one), hwa, -deep_ptr]
        exact st
def mdR (nv gv : AV) : Option SM → AV
  | some S => .tup [monV nv gv S, .int .i64 0]
  | none => .tup [.nilp, .int .i64 7]
theorem md_out {nv gv : AV} {ps : List AV} {rows : List (List Int)} {good : List Bool} {k : Nat} (hn : IsRows nv ps rows) (hg : IsB gv good) (v : VB rows good k) {M O lo : Nat} :
    ∀ (f i : Nat) (m : Mem) (wv : AV) (S : SM), Md m M O nv gv wv S lo → lo ≤ m.nx → MOk rows k S → i ≤ S.1.length → 400 < f + i →
    brand_made.L0 (.ptr M 0 4) (.int .i64 i) m KM0 = some (mdR nv gv (bfsM rows k f i S), Mem.empty) := by
  intro f
  have n6 := v.n6
  have k3 := v.k3
  induction f with
  | zero => intro i m wv S D hlo hS hi hf; have := hS.le; omega
  | succ f ih =>
    intro i m wv S D hlo hS hi hf
    have hle := hS.le
    have hlen := hS.len
    obtain ⟨h, nx0⟩ := m
    have hM : h M = some (.cells [nv, gv, wv, .map O]) := D.o
    by_cases c : i < S.1.length
    · have hx := List.getElem?_eq_getElem c
      have c2 : i < S.2.length := by rw [← hS.len]; exact c
      have hw := List.getElem?_eq_getElem c2
      generalize S.1[i] = x at hx
      generalize S.2[i] = w at hw
      have hxw := hS.at hx hw
      subst hxw
      have hwm := List.mem_of_getElem? hw
      have r0 := v.rl 0 v.n1
      have i0 := hn.idx (i := 0) v.n1 .i64
      have j0 := hn.head (i := 0) v.n1
      have iw0 := hn.row 0 v.n1
      simp only [Int.ofNat_zero, Int.cast_ofNat_Int, List.drop_zero] at i0 j0
      rw [bfsM, hx, hw]
      simp only []
      have st := md_in (M := M) (O := O) (lo := lo) (i := i) (w := w) (r := some (mdR nv gv ((bInM rows (mv6 rows w) w k 0 S).bind fun S' => bfsM rows k f (i + 1) S'), Mem.empty)) hn hg v k 0 ⟨h, nx0⟩ wv S (by omega) D hlo hS hw (by omega) (fun S1 e m' wv' D' hlo' => by
        obtain ⟨h1, ⟨p, r, h2, h3⟩, h4⟩ := bInM_ok n6 k3 k 0 S S1 (by omega) hS hwm e
        have := ih (i + 1) m' wv' S1 D' hlo' h1 (by rw [h2]; simp; omega) (by omega)
        simp only [Int.natCast_add, Int.cast_ofNat_Int] at this
        rw [e, Option.bind_some]
        exact this) (fun e => by rw [e]; rfl)
      simp only [Int.ofNat_zero, Int.cast_ofNat_Int] at st
      rw [brand_made.L0_eq]
      simp [hM, D.w.len, c2, i0, j0, iw0.len, r0]
      exact st
    · have hx : S.1[i]? = none := List.getElem?_eq_none (by omega)
      have c2 : ¬ i < S.2.length := by omega
      have hd := deep_md D hn.deep hg.deep 0
      simp only at hd
      rw [bfsM, hx, brand_made.L0_eq]
      simp [hM, D.w.len, c2, KM0, hd, mdR, -deep_ptr]
      done
/-- The monoid of a brand. -/
noncomputable def madeB (rows : List (List Int)) (good : List Bool) (k : Nat) : Option SM := madeS (rowsM rows good k) k
theorem deep_142 (h : Nat → Option AObj) (d : Nat) : AM.deep h (d + 1) (.iface 142 (.agg [])) = some (.iface 142 (.agg [])) := rfl
theorem made_spec {nv gv : AV} {ps : List AV} {rows : List (List Int)} {good : List Bool} (hn : IsRows nv ps rows) (hg : IsB gv good) (hl : rows.length ≤ 1000) (hgl : good.length ≤ 1000) (hr : ∀ i, i < rows.length → (cth rows i).length ≤ 1000) (m : Mem) :
    denC prog ann 70 [.agg [nv, gv]] m = some (if validB rows good = true then mdR (nvM rows good (cth rows 0).length) (gvM rows good (cth rows 0).length) (madeB rows good (cth rows 0).length) else .tup [.nilp, .int .i64 1], m) := by
  have h1 := fun m => valid_spec hn hg hl hgl hr m
  rw [brand_made.call_eq _ _ (by simp [hn.closed, hg.closed])]
  cases c0 : validB rows good with
  | false =>
    rw [c0] at h1
    simp [hn.one, hg.one, hn.closed, hg.closed, h1]
    done
  | true =>
    rw [c0] at h1
    have v := VB.of c0
    have h2 := fun m => smallest_spec hn hg v m
    rw [repL_eq v, resV_eq] at h2
    have vm := VB_M v
    have hm := isRows_M rows good (cth rows 0).length
    have hb := isB_M rows good (cth rows 0).length
    have htb := fun m => table_spec (wv := .fsl true 1 [.str []]) (ov := .fmap [] []) hm hb vm rfl rfl [] m
    rw [show dsV (rowsM rows good (cth rows 0).length) [] = .iface 142 (.agg []) from rfl] at htb
    simp only [encM] at htb
    have hm0 : Mp ⟨upd (upd Mem.empty.h 0 (some (AObj.map 0 [] []))) 1 (some (AObj.cells [nvM rows good (cth rows 0).length, gvM rows good (cth rows 0).length, AV.fsl true 1 [AV.str []], AV.map 0])), 10⟩ 0 (([] : List (List Nat)).map encM) (([] : List Nat).map natV) := ⟨⟨0, by simp⟩, by show 0 < 10; omega⟩
    obtain ⟨m2, p1, p2, p3, p4⟩ := hm0.put (c := mv6 (rowsM rows good (cth rows 0).length) []) keysM (by simp) rfl (mv6_len _ _) (by simp) 0
    simp only [encM, natV, Int.ofNat_zero, Int.cast_ofNat_Int] at p1
    have st := md_out (M := 1) (O := 0) (lo := 2) hm hb vm 401 0 ⟨m2.h, 11⟩ (.fsl true 1 [.str []]) ([mv6 (rowsM rows good (cth rows 0).length) []], [[]]) ⟨by show m2.h 1 = _; rw [p4 1 (by omega)]; simp, .inl rfl, p2.fr rfl (by show 0 < 11; omega), by omega, rfl⟩ (by show 2 ≤ 11; omega) (MOk1 _ _) (by simp) (by omega)
    simp only [Int.ofNat_zero, Int.cast_ofNat_Int, KM0] at st
    have d1 := fun hp => hm.deep hp 4
    have d2 := fun hp => hb.deep hp 4
    simp [hn.one, hg.one, hn.closed, hg.closed, h1, h2, hm.one, hb.one, d1, d2, deep_142, htb, encM_flat, p1]
    rw [st]
    rfl
end Go.Proofs.Ythnpflkpjimkfaa

/-
  ELEMENTS' NUMBERS: the program's Monoid, Element, Idempotents. Conditions: none.
-/
namespace Go.Proofs.Ythnpflkpjimkfaa
open Go.AM
open Go.Proofs.Try (prog)
set_option linter.all false
set_option maxRecDepth 100000
set_option maxHeartbeats 8000000

def numM (rows : List (List Int)) (S : SM) (w : List UInt8) : Nat := S.1.idxOf (mv6 rows w)
/-- A whole monoid. -/
structure MW (rows : List (List Int)) (k : Nat) (S : SM) : Prop where
  ok : MOk rows k S
  pre : ∃ p q, S.1 = [mv6 rows []] ++ p ∧ S.2 = [[]] ++ q
  cl : ∀ x ∈ S.1, ∀ a, a < k → nxM rows x a ∈ S.1
section
variable {rows : List (List Int)} {k : Nat} {S : SM}
theorem chr_ltr {c : UInt8} (h : 97 ≤ c.toNat) : [c] = ltr (c.toNat - 97) := by
  rw [ltr, show 97 + (c.toNat - 97) = c.toNat by omega]
  simp
theorem MW.mem (h : MW rows k S) (n6 : rows.length ≤ 6) (k3 : k ≤ 3) : ∀ (w p : List UInt8), okW k w → mv6 rows p ∈ S.1 → mv6 rows (p ++ w) ∈ S.1
  | [], p, _, hp => by simpa using hp
  | c :: w, p, hw, hp => by
    have hc := hw c (by simp)
    have e : p ++ c :: w = (p ++ [c]) ++ w := by simp
    rw [e]
    refine MW.mem h n6 k3 w (p ++ [c]) (fun b hb => hw b (by simp [hb])) ?_
    rw [chr_ltr hc.1]
    have := mv6_ltr rows n6 p (a := c.toNat - 97) (by omega)
    rw [extL] at this
    rw [this]
    exact h.cl _ hp _ hc.2
theorem MW.all (h : MW rows k S) (n6 : rows.length ≤ 6) (k3 : k ≤ 3) {w : List UInt8} (hw : okW k w) : mv6 rows w ∈ S.1 := by
  have := h.mem n6 k3 w [] hw (by obtain ⟨p, _, e, _⟩ := h.pre; rw [e]; simp)
  simpa using this
theorem MW.lt (h : MW rows k S) (n6 : rows.length ≤ 6) (k3 : k ≤ 3) {w : List UInt8} (hw : okW k w) : numM rows S w < S.1.length := List.idxOf_lt_length_iff.2 (h.all n6 k3 hw)
theorem MW.at (h : MW rows k S) (n6 : rows.length ≤ 6) (k3 : k ≤ 3) {w : List UInt8} (hw : okW k w) : S.1[numM rows S w]? = some (mv6 rows w) := by
  have hl := h.lt n6 k3 hw
  rw [List.getElem?_eq_getElem hl]
  simp [numM]
theorem MW.pos (h : MW rows k S) : 0 < S.1.length := by obtain ⟨p, _, e, _⟩ := h.pre; rw [e]; simp
/-- The word of a number. -/
def wrd (S : SM) (i : Nat) : List UInt8 := S.2.getD i []
theorem MW.wok (h : MW rows k S) {i : Nat} (hi : i < S.1.length) : S.2[i]? = some (wrd S i) ∧ okW k (wrd S i) ∧ (wrd S i).length ≤ 400 ∧ S.1[i]? = some (mv6 rows (wrd S i)) := by
  have hi2 : i < S.2.length := by rw [← h.ok.len]; exact hi
  have e : S.2[i]? = some (wrd S i) := by simp [wrd, List.getD_eq_getElem?_getD, hi2]
  have hm := List.mem_of_getElem? e
  have := h.ok.ok _ hm
  have hle := h.ok.le
  have hlen := h.ok.len
  refine ⟨e, this.1, by omega, ?_⟩
  rw [h.ok.eq, List.getElem?_map, e]; rfl
theorem look_num (h : MW rows k S) (n6 : rows.length ≤ 6) (k3 : k ≤ 3) {w : List UInt8} (hw : okW k w) (m : Mem) : lookP prog m 139 (.int .i64 0) (.fmap (S.1.map encM) ((List.range S.1.length).map natV)) (encM (mv6 rows w)) false = some (.int .i64 (numM rows S w : Nat)) := by
  have hl := h.lt n6 k3 hw
  have q1 := lkP_at (vs := List.range S.1.length) h.ok.nd (h.at n6 k3 hw) (w := numM rows S w) (by simp [hl])
  simp only [lookP, keysM.key (mv6 rows w) (mv6_len _ _), cond_true, lookA, findK_of keysM (vs := List.range S.1.length) (ev := natV) (fun x hx => h.ok.six x hx) (mv6_len rows w) (by simp), q1, Option.bind_some]
  rfl
end
theorem number_spec {nv gv : AV} {ps : List AV} {rows : List (List Int)} {good : List Bool} {k : Nat} (hn : IsRows nv ps rows) (hg : IsB gv good) (v : VB rows good k) {S : SM} (h : MW rows k S) {w : List UInt8} (hw : okW k w) (hwl : w.length ≤ 1000000) (m : Mem) :
    denC prog ann 71 [monV nv gv S, .str w] m = some (.int .i64 (numM rows S w : Nat), m) := by
  have hl := look_num h v.n6 v.k3 hw
  have hfl := (letF_iff k w).2 hw
  have hdo := fun m => does_spec (wv := .fsl (decide (S.2.length = 1)) S.2.length (S.2.map .str)) (ov := .fmap (S.1.map encM) ((List.range S.1.length).map natV)) hn hg v rfl rfl hwl hfl m
  have htb := fun m => table_spec (wv := .fsl (decide (S.2.length = 1)) S.2.length (S.2.map .str)) (ov := .fmap (S.1.map encM) ((List.range S.1.length).map natV)) hn hg v rfl rfl w m
  have hdc : (dsV rows w).closed = true := by
    unfold dsV encM
    split
    · rfl
    · simp [AV.closed, encM_closed]
  rw [monV, brand_monoid_number.call_eq _ _ _ (by simp [hn.closed, hg.closed])]
  simp [hn.closed, hg.closed, hn.one, hg.one, hdo, htb, hdc, hl]
  done
end Go.Proofs.Ythnpflkpjimkfaa

/-
  Monoid, Element, Idempotents: what the program returns. Conditions: none.
-/
namespace Go.Proofs.Ythnpflkpjimkfaa
open Go.AM
open Go.Proofs.Try (prog)
set_option linter.all false
set_option maxRecDepth 100000
set_option maxHeartbeats 8000000

noncomputable def nvB (rows : List (List Int)) (good : List Bool) : AV := nvM rows good (cth rows 0).length
noncomputable def gvB (rows : List (List Int)) (good : List Bool) : AV := gvM rows good (cth rows 0).length
theorem MW_of {rows : List (List Int)} {good : List Bool} {k : Nat} (v : VB rows good k) {S : SM} (h : madeB rows good k = some S) : MW (rowsM rows good k) k S := by
  have vm := VB_M v
  obtain ⟨h1, h2, h3⟩ := madeS_ok vm.n6 vm.k3 h
  exact ⟨h1, h2, h3⟩
def wdsV (S : SM) : AV := .fsl (decide (S.2.length = 1)) S.2.length (S.2.map .str)
def strsV (l : List (List UInt8)) : AV := if l = [] then .nils else .fsl false l.length (l.map .str)
theorem Nl.deep_strs {h : Nat → Option AObj} {v : AV} {l : List (List UInt8)} {lo hi : Nat} (n : Nl h v (l.map .str) lo hi) (hz : l = [] → v = .nils) (d : Nat) : AM.deep h (d + 2) v = some (strsV l) := by
  unfold strsV
  by_cases e : l = []
  · rw [if_pos e, hz e]; rfl
  · rw [if_neg e]
    have := n.deep (d + 1) (fun x hx => by
      simp only [List.mem_map] at hx
      obtain ⟨b, _, rfl⟩ := hx
      rfl) (n.nn (by simpa using e))
    simpa using this
theorem monoid_spec {nv gv : AV} {ps : List AV} {rows : List (List Int)} {good : List Bool} (hn : IsRows nv ps rows) (hg : IsB gv good) (hl : rows.length ≤ 1000) (hgl : good.length ≤ 1000) (hr : ∀ i, i < rows.length → (cth rows i).length ≤ 1000) (m : Mem) :
    denC prog ann 36 [.agg [nv, gv]] m = some (if validB rows good = true then (match madeB rows good (cth rows 0).length with | some S => .tup [wdsV S, .int .i64 0] | none => .tup [.nils, .int .i64 7]) else .tup [.nils, .int .i64 1], m) := by
  have h1 := fun m => made_spec hn hg hl hgl hr m
  rw [brand_Monoid.call_eq _ _ (by simp [hn.closed, hg.closed])]
  cases c0 : validB rows good with
  | false =>
    rw [c0] at h1
    simp [hn.one, hg.one, hn.closed, hg.closed, h1]
    done
  | true =>
    rw [c0, if_pos rfl] at h1
    cases e : madeB rows good (cth rows 0).length with
    | none =>
      rw [e] at h1
      simp only [mdR] at h1
      simp [hn.one, hg.one, hn.closed, hg.closed, h1]
      done
    | some S =>
      rw [e] at h1
      simp only [mdR, monV] at h1
      simp [hn.one, hg.one, hn.closed, hg.closed, h1, wdsV]
      done
theorem wordE0 {k : Nat} {s : List UInt8} (h : wordE k s = 0) : s.length ≤ 200 ∧ okW k s := by
  unfold wordE at h
  by_cases q : 200 < s.length
  · rw [if_pos q] at h; cases h
  · rw [if_neg q] at h
    by_cases q2 : letF k s s.length 0 = true
    · exact ⟨by omega, (letF_iff k s).1 q2⟩
    · rw [if_neg q2] at h; cases h
theorem element_spec {nv gv : AV} {ps : List AV} {rows : List (List Int)} {good : List Bool} (hn : IsRows nv ps rows) (hg : IsB gv good) (hl : rows.length ≤ 1000) (hgl : good.length ≤ 1000) (hr : ∀ i, i < rows.length → (cth rows i).length ≤ 1000) {s : List UInt8} (hs : s.length ≤ 1000) (m : Mem) :
    denC prog ann 37 [.agg [nv, gv], .str s] m = some (if validB rows good = true then (if wordE (cth rows 0).length s = 0 then (match madeB rows good (cth rows 0).length with | some S => .tup [.str (wrd S (numM (rowsM rows good (cth rows 0).length) S s)), .int .i64 0] | none => .tup [.str [], .int .i64 7]) else .tup [.str [], .int .i64 (wordE (cth rows 0).length s)]) else .tup [.str [], .int .i64 1], m) := by
  have h1 := fun m => made_spec hn hg hl hgl hr m
  have h2 := fun m => check_spec hn hg hl hgl hr hs m
  rw [brand_Element.call_eq _ _ _ (by simp [hn.closed, hg.closed])]
  cases c0 : validB rows good with
  | false =>
    rw [c0] at h2
    simp [hn.one, hg.one, hn.closed, hg.closed, h2]
    done
  | true =>
    rw [c0, if_pos rfl] at h1 h2
    have v := VB.of c0
    by_cases ew : wordE (cth rows 0).length s = 0
    · rw [ew] at h2
      obtain ⟨hsl, hok⟩ := wordE0 ew
      cases e : madeB rows good (cth rows 0).length with
      | none =>
        rw [e] at h1
        simp only [mdR] at h1
        simp [hn.one, hg.one, hn.closed, hg.closed, h1, h2, ew]
        done
      | some S =>
        have W := MW_of v e
        have vm := VB_M v
        have hlt := W.lt vm.n6 vm.k3 hok
        obtain ⟨w1, w2, w3, w4⟩ := W.wok hlt
        have hnm := fun m => number_spec (isRows_M rows good (cth rows 0).length) (isB_M rows good (cth rows 0).length) vm W hok (by omega) m
        rw [e] at h1
        simp only [mdR, monV] at h1 hnm
        have hl2 : numM (rowsM rows good (cth rows 0).length) S s < S.2.length := by rw [← W.ok.len]; exact hlt
        have hd : ((S.2.map AV.str).drop (numM (rowsM rows good (cth rows 0).length) S s)).head? = some (.str (wrd S (numM (rowsM rows good (cth rows 0).length) S s))) := by rw [List.head?_drop, List.getElem?_map, w1]; rfl
        simp [hn.one, hg.one, hn.closed, hg.closed, h1, h2, ew, hnm, hl2, hd, -List.head?_drop, -List.map_drop]
        done
    · simp [hn.one, hg.one, hn.closed, hg.closed, h2, ew]
      done
/-- The idempotents' words. -/
def idmL (rows : List (List Int)) (S : SM) (c i : Nat) : List (List UInt8) := ((List.range' i c).filter fun i => numM rows S (wrd S i ++ wrd S i) == i).map (wrd S)
theorem idm_loop {nv gv : AV} {ps : List AV} {rows : List (List Int)} {good : List Bool} {k : Nat} (hn : IsRows nv ps rows) (hg : IsB gv good) (v : VB rows good k) {S : SM} (W : MW rows k S) : ∀ (c i : Nat) (h : Nat → Option AObj) (nx0 : Nat) (a : AV) (l : List (List UInt8)), i + c = S.1.length → Nl h a (l.map .str) 0 nx0 → (l = [] → a = .nils) → l.length ≤ i →
    brand_Idempotents.L0 (monV nv gv S) a (wdsV S) (.int .i64 S.2.length) (.int .i64 i) ⟨h, nx0⟩ [.code brand_Idempotents.r11, .code .ret] = some (.tup [strsV (l ++ idmL rows S c i), .int .i64 0], Mem.empty) := by
  intro c
  have hle := W.ok.le
  have hlen := W.ok.len
  induction c with
  | zero =>
    intro i h nx0 a l h1 N hz hli
    have e : i = S.2.length := by omega
    subst e
    have hd := N.deep_strs hz 3
    simp only [idmL, List.range'_zero, List.filter_nil, List.map_nil, List.append_nil]
    rw [brand_Idempotents.L0_eq]
    simp [hd]
    done
  | succ c ih =>
    intro i h nx0 a l h1 N hz hli
    have hi : i < S.2.length := by omega
    have hwi : IntKind.wrap .i64 ((i : Int) + 1) = (i : Int) + 1 := wrap_id (by omega) (by omega)
    obtain ⟨w1, w2, w3, w4⟩ := W.wok (i := i) (by omega)
    have hnm := fun m => number_spec hn hg v W (w := wrd S i ++ wrd S i) (okW_app w2 w2) (by simp; omega) m
    have hd : ((S.2.map AV.str).drop i).head? = some (.str (wrd S i)) := by rw [List.head?_drop, List.getElem?_map, w1]; rfl
    have hll : (wrd S i).length + (wrd S i).length ≤ 4611686018427387904 := by omega
    have hmc : (monV nv gv S).closed = true := rfl
    rw [show idmL rows S (c + 1) i = (if numM rows S (wrd S i ++ wrd S i) = i then [wrd S i] else []) ++ idmL rows S c (i + 1) by
      rw [idmL, List.range'_succ, List.filter_cons]
      by_cases q : numM rows S (wrd S i ++ wrd S i) = i
      · simp [q, idmL]
      · simp [q, idmL]]
    rw [← List.append_assoc]
    by_cases q : numM rows S (wrd S i ++ wrd S i) = i
    · rw [if_pos q]
      rw [q] at hnm
      obtain ⟨a', h', nx', g1, g2, g3, g4, g5, g6, g7⟩ := N.app (nx := nx0) (by' := 16) (Nat.le_refl _) (by omega) (by simp; omega) (.str (wrd S i))
      have st := ih (i + 1) h' nx' a' (l ++ [wrd S i]) (by omega) (by simpa using g2) (by simp) (by simp; omega)
      simp only [Int.natCast_add, Int.cast_ofNat_Int] at st
      rw [brand_Idempotents.L0_eq]
      simp only [wdsV] at st ⊢
      simp [hi, hd, hll, hmc, hnm, N.one, g1, hwi, st, -List.head?_drop, -List.map_drop]
      done
    · rw [if_neg q, List.append_nil]
      have st := ih (i + 1) h nx0 a l (by omega) N hz (by omega)
      simp only [Int.natCast_add, Int.cast_ofNat_Int] at st
      have q' : ¬ ((numM rows S (wrd S i ++ wrd S i) : Nat) : Int) = i := by omega
      rw [brand_Idempotents.L0_eq]
      simp only [wdsV] at st ⊢
      simp [hi, hd, hll, hmc, hnm, q', hwi, st, -List.head?_drop, -List.map_drop]
      done
theorem idm_spec {nv gv : AV} {ps : List AV} {rows : List (List Int)} {good : List Bool} (hn : IsRows nv ps rows) (hg : IsB gv good) (hl : rows.length ≤ 1000) (hgl : good.length ≤ 1000) (hr : ∀ i, i < rows.length → (cth rows i).length ≤ 1000) (m : Mem) :
    denC prog ann 40 [.agg [nv, gv]] m = some (if validB rows good = true then (match madeB rows good (cth rows 0).length with | some S => .tup [strsV (idmL (rowsM rows good (cth rows 0).length) S S.1.length 0), .int .i64 0] | none => .tup [.nils, .int .i64 7]) else .tup [.nils, .int .i64 1], m) := by
  have h1 := fun m => made_spec hn hg hl hgl hr m
  rw [brand_Idempotents.call_eq _ _ (by simp [hn.closed, hg.closed])]
  cases c0 : validB rows good with
  | false =>
    rw [c0] at h1
    simp [hn.one, hg.one, hn.closed, hg.closed, h1]
    done
  | true =>
    rw [c0, if_pos rfl] at h1
    have v := VB.of c0
    cases e : madeB rows good (cth rows 0).length with
    | none =>
      rw [e] at h1
      simp only [mdR] at h1
      simp [hn.one, hg.one, hn.closed, hg.closed, h1]
      done
    | some S =>
      have W := MW_of v e
      have vm := VB_M v
      rw [e] at h1
      simp only [mdR] at h1
      have lp := fun h nx0 => idm_loop (isRows_M rows good (cth rows 0).length) (isB_M rows good (cth rows 0).length) vm W S.1.length 0 h nx0 .nils [] (by omega) .nil (fun _ => rfl) (by simp)
      simp only [Int.ofNat_zero, Int.cast_ofNat_Int, List.nil_append] at lp
      simp only [monV, wdsV] at h1 lp
      simp [hn.one, hg.one, hn.closed, hg.closed, h1, lp]
      done
end Go.Proofs.Ythnpflkpjimkfaa
