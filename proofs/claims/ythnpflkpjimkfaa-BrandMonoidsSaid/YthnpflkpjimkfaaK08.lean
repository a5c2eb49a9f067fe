/-
  ALL ELEMENTS OF A MONOID: the specification's search. Conditions: none.
-/
import Derived.Test.YthnpflkpjimkfaaK07
import Derived.Test.YthnpflkpjimkfaaK01
set_option linter.all false
namespace Go.Proofs.Ythnpflkpjimkfaa
open Go.AM
open Go.Proofs.Try (prog)
set_option linter.all false
set_option maxRecDepth 100000
set_option maxHeartbeats 8000000

def bInE (rows : List (List Int)) (x : List Nat) (w : List UInt8) : Nat → Nat → SM → SM × Bool
  | 0, _, S => (S, true)
  | c + 1, a, S => if nxM rows x a ∈ S.1 then bInE rows x w c (a + 1) S else if S.1.length = 400 then ((S.1 ++ [nxM rows x a], S.2 ++ [extL w a]), false) else bInE rows x w c (a + 1) (S.1 ++ [nxM rows x a], S.2 ++ [extL w a])
def bfsE (rows : List (List Int)) (k : Nat) : Nat → Nat → SM → SM × Bool
  | 0, _, S => (S, true)
  | f + 1, i, S => match S.1[i]?, S.2[i]? with
    | some x, some w => if (bInE rows x w k 0 S).2 = true then bfsE rows k f (i + 1) (bInE rows x w k 0 S).1 else ((bInE rows x w k 0 S).1, false)
    | _, _ => (S, true)
theorem bInE_M (rows : List (List Int)) (x : List Nat) (w : List UInt8) : ∀ (c a : Nat) (S : SM), bInM rows x w c a S = if (bInE rows x w c a S).2 = true then some (bInE rows x w c a S).1 else none
  | 0, a, S => rfl
  | c + 1, a, S => by
    rw [bInM, bInE]
    split
    · exact bInE_M rows x w c (a + 1) S
    · split
      · rfl
      · exact bInE_M rows x w c (a + 1) _
theorem bfsE_M (rows : List (List Int)) (k : Nat) : ∀ (f i : Nat) (S : SM), bfsM rows k f i S = if (bfsE rows k f i S).2 = true then some (bfsE rows k f i S).1 else none
  | 0, i, S => rfl
  | f + 1, i, S => by
    rw [bfsM, bfsE]
    cases h1 : S.1[i]? with
    | none => rfl
    | some x =>
      cases h2 : S.2[i]? with
      | none => rfl
      | some w =>
        simp only []
        rw [bInE_M]
        by_cases q : (bInE rows x w k 0 S).2 = true
        · rw [if_pos q, if_pos q, Option.bind_some]; exact bfsE_M rows k f (i + 1) _
        · rw [if_neg q, if_neg q]; rfl
def tat (x : List Nat) (s : Nat) : Nat := x.getD s 0
/-- The monoid as it grows: strings and words. -/
structure Dw (h : Nat → Option AObj) (M : Nat) (dv wv : AV) (n : Nat) (S : SM) (lo hi : Nat) : Prop where
  o : h M = some (.cells [dv, wv])
  d : Nf h dv ((S.1.map (encD n)).map .str) lo hi
  w : Nf h wv (S.2.map .str) lo hi
  dj : ∀ y, objId dv = some y → objId wv ≠ some y
  z : h 0 = some (.cells [.nils, .nils])
  mo : M < lo ∧ 0 < M
  x : isF dv = decide (S.2.length = 1) ∧ isF wv = decide (S.2.length = 1)
theorem of_row {nv gv : AV} {ps : List AV} {rows : List (List Int)} {good : List Bool} {k : Nat} (hn : IsRows nv ps rows) (v : VB rows good k) {M lo i a : Nat} {x : List Nat} (hx : ∀ s, s < rows.length → tat x s < rows.length) (ha : a < k) {x2 dv wv : AV} {S : SM} (hS : S.1[i]? = some x) {R : Nat} (hR : lo ≤ R) {r : Option Res} {K : List Item} :
    ∀ (c s : Nat) (h : Nat → Option AObj) (nx0 : Nat), s + c = rows.length → Dw h M dv wv rows.length S lo R → h R = some (.cells (bysV (doF (fun s => nx rows (tat x s) a) s))) → R < nx0 →
    (∀ h' nx', Dw h' M dv wv rows.length S lo R → h' R = some (.cells (bysV (doF (fun s => nx rows (tat x s) a) rows.length))) → nx0 ≤ nx' →
      r07_Of.L4 (.fptr [nv, gv]) x2 (.ptr M 0 2) (.int .i64 i) (.int .i64 a) (.sl R 1 0 rows.length rows.length) (.int .i64 rows.length) ⟨h', nx'⟩ K = r) →
    r07_Of.L4 (.fptr [nv, gv]) x2 (.ptr M 0 2) (.int .i64 i) (.int .i64 a) (.sl R 1 0 s s) (.int .i64 s) ⟨h, nx0⟩ K = r := by
  intro c
  have n6 := v.n6
  induction c with
  | zero =>
    intro s h nx0 h1 D h0 hn0 hk
    have e : s = rows.length := by omega
    subst e
    exact hk h nx0 D h0 (Nat.le_refl _)
  | succ c ih =>
    intro s h nx0 h1 D h0 hn0 hk
    have hs : s < rows.length := by omega
    have hws : IntKind.wrap .i64 ((s : Int) + 1) = (s : Int) + 1 := wrap_id (by omega) (by omega)
    have hxs := hx s hs
    obtain ⟨c1, c2⟩ := nx_lt v hxs ha
    have b := v.rl _ hxs
    have iw := hn.row _ hxs
    have d1 := iw.idx (i := a) (by omega) .i64
    have e1 := ints_head (l := cth rows (tat x s)) (i := a) (by omega)
    rw [c2] at e1
    have hw8 := wrap8n (x := nx rows (tat x s) a) (by omega)
    have hc := doF_cell (f := fun s => nx rows (tat x s) a) (c := s) (by omega)
    have hil := (List.getElem?_eq_some_iff.1 hS).1
    obtain ⟨p, hp1, hp2, _⟩ := D.d.at (i := i) (by simpa using hil)
    have hs2 : ((S.1.map (encD rows.length)).map AV.str)[i]? = some (.str (encD rows.length x)) := by simp [hS]
    rw [hs2] at hp2
    have hst : idxStr (.str (encD rows.length x)) (.int .i64 (s : Int)) = some (.int .u8 (tat x s : Nat)) := by
      have : (encD rows.length x)[s]? = some (UInt8.ofNat (tat x s)) := doF_at hs
      have h6 : (UInt8.ofNat (tat x s)).toNat = tat x s := ofNat6 (by omega)
      have hl : (encD rows.length x).length = rows.length := by simp [encD]
      rw [idxStr_str, hl]
      simp only [Int.toNat_natCast, this, Option.map_some, h6]
      simp [inR, hs]
    have hM : h M = some (.cells [dv, wv]) := D.o
    have hlo := D.mo
    have D2 : Dw (upd h R (some (.cells (bysV (doF (fun s => nx rows (tat x s) a) (s + 1)))))) M dv wv rows.length S lo R := ⟨by rw [updNe (by omega)]; exact hM, D.d.fr (fun y y1 y2 _ => updNe (by omega)) (Nat.le_refl _), D.w.fr (fun y y1 y2 _ => updNe (by omega)) (Nat.le_refl _), D.dj, by rw [updNe (by omega)]; exact D.z, D.mo, D.x⟩
    have st := ih (s + 1) (upd h R (some (.cells (bysV (doF (fun s => nx rows (tat x s) a) (s + 1)))))) (nx0 + 19) (by omega) D2 (by simp) (by omega) (fun h' nx' g1 g2 g3 => hk h' nx' g1 g2 (by omega))
    simp only [Int.natCast_add, Int.cast_ofNat_Int] at st
    rw [r07_Of.L4_eq]
    simp [hn.len, hs, hM, hp1, hp2, hst, hn.idx hxs, hn.head hxs, d1, e1, hw8, h0, hc, hws, show s ≤ 4611686018427387903 by omega, show s + 1 ≤ 70368744177664 by omega, st, -idxStr_str]
    done
theorem Dw.clo {h : Nat → Option AObj} {M n lo hi : Nat} {dv wv : AV} {S : SM} (D : Dw h M dv wv n S lo hi) (hl : S.1.length ≤ 1000) (s : List UInt8) :
    (dv.closed = true ∧ wv.closed = true ∧ ∀ m, denC prog ann 73 [.agg [dv, wv], .str s] m = some (.int .i64 (fndI (S.1.map (encD n)) s), m)) ∨ (dv.closed = false ∧ wv.closed = false ∧ ∀ m : Mem, m = m) := by
  have x1 := D.x.1
  have x2 := D.x.2
  rcases D.d with h1 | ⟨R1, h1, _⟩ <;> rcases D.w with h2 | ⟨R2, h2, _⟩
  · subst h1; subst h2
    refine .inl ⟨rfl, rfl, fun m => ?_⟩
    have := find_spec' (ex := true) (wv := .fsl true (S.2.map AV.str).length (S.2.map .str)) rfl rfl (L := S.1.map (encD n)) (s := s) (by simpa using hl) m
    simpa using this
  · subst h1; subst h2
    simp only [isF] at x1 x2
    rw [← x1] at x2; cases x2
  · subst h1; subst h2
    simp only [isF] at x1 x2
    rw [← x1] at x2; cases x2
  · subst h1; subst h2
    exact .inr ⟨rfl, rfl, fun _ => rfl⟩
def ofV (n : Nat) (S : SM) : AV := .agg [.fsl (decide (S.2.length = 1)) S.1.length ((S.1.map (encD n)).map .str), .fsl (decide (S.2.length = 1)) S.2.length (S.2.map .str)]
def ofR (n : Nat) (P : SM × Bool) : AV := .tup [ofV n P.1, .bool P.2]
noncomputable def KO0 : List Item := [.code r07_Of.r17, .code .ret]
noncomputable def KO2 : List Item := .inBlock 1 :: .code r07_Of.r4 :: .inLoop r07_Of.l0 :: .inBlock 0 :: KO0
noncomputable def KO4 : List Item := .code r07_Of.r13 :: .code r07_Of.i3 :: .inBlock 3 :: .code r07_Of.r7 :: .inLoop r07_Of.l2 :: .inBlock 2 :: KO2
theorem frz_64_69 (s : St) : frz1 s 3064069 = bif ap (objId (s.get 64)) (objId (s.get 69)) then some s else none := by rw [← ap_eq]; rfl
theorem frz_67 (s : St) : frz1 s 2000067 = bif nsl (s.get 67) then some s else none := rfl
theorem frz_64_71 (s : St) : frz1 s 3064071 = bif ap (objId (s.get 64)) (objId (s.get 71)) then some s else none := by rw [← ap_eq]; rfl
theorem frz_64_74 (s : St) : frz1 s 3064074 = bif ap (objId (s.get 64)) (objId (s.get 74)) then some s else none := by rw [← ap_eq]; rfl
theorem flat_int (k : IntKind) (n : Int) : (AV.int k n).flat = true := rfl
theorem ap_ne {x z : Option Nat} (h : ∀ y, x = some y → z ≠ some y) : ap x z = true := by
  cases x with
  | none => rfl
  | some a =>
    cases z with
    | none => rfl
    | some b =>
      have : (a == b) = false := beq_eq_false_iff_ne.2 (fun e => h a rfl (by rw [e]))
      simp [ap, this]
theorem of_in {nv gv : AV} {ps : List AV} {rows : List (List Int)} {good : List Bool} {k : Nat} (hn : IsRows nv ps rows) (v : VB rows good k) {M lo i : Nat} {w : List UInt8} {r : Option Res} :
    ∀ (c a : Nat) (h : Nat → Option AObj) (nx0 : Nat) (dv wv : AV) (S : SM), a + c = k → Dw h M dv wv rows.length S lo nx0 → lo ≤ nx0 → MOk rows k S → S.2[i]? = some w → i < 400 →
    ((bInE rows (mv6 rows w) w c a S).2 = true → ∀ h' nx' dv' wv', Dw h' M dv' wv' rows.length (bInE rows (mv6 rows w) w c a S).1 lo nx' → lo ≤ nx' → r07_Of.L0 (.fptr [nv, gv]) (.ptr 0 0 2) (.ptr M 0 2) (.int .i64 ((i : Int) + 1)) ⟨h', nx'⟩ KO0 = r) →
    ((bInE rows (mv6 rows w) w c a S).2 = false → r = some (ofR rows.length ((bInE rows (mv6 rows w) w c a S).1, false), Mem.empty)) →
    r07_Of.L2 (.fptr [nv, gv]) (.ptr 0 0 2) (.ptr M 0 2) (.int .i64 i) (.int .i64 a) ⟨h, nx0⟩ KO2 = r := by
  intro c
  have n6 := v.n6
  have k3 := v.k3
  have i0 := hn.idx (i := 0) v.n1 .i64
  have j0 := hn.head (i := 0) v.n1
  have iw0 := hn.row 0 v.n1
  have r0 := v.rl 0 v.n1
  simp only [Int.ofNat_zero, Int.cast_ofNat_Int, List.drop_zero] at i0 j0
  induction c with
  | zero =>
    intro a h nx0 dv wv S h1 D hlo hS hw hi hk hf
    have e : a = k := by omega
    subst e
    have hwi : IntKind.wrap .i64 ((i : Int) + 1) = (i : Int) + 1 := wrap_id (by omega) (by omega)
    have hk := hk rfl h nx0 dv wv D hlo
    rw [r07_Of.L2_eq]
    simp [KO2, i0, j0, iw0.len, r0, hwi]
    exact hk
  | succ c ih =>
    intro a h nx0 dv wv S h1 D hlo hS hw hi hk hf
    have ha : a < k := by omega
    have hwa : IntKind.wrap .i64 ((a : Int) + 1) = (a : Int) + 1 := wrap_id (by omega) (by omega)
    have hi2 := (List.getElem?_eq_some_iff.1 hw).1
    have hwm := List.mem_of_getElem? hw
    have hle := hS.le
    have hlen := hS.len
    have hok := hS.ok w hwm
    have hS1 : S.1[i]? = some (mv6 rows w) := by rw [hS.eq, List.getElem?_map, hw]; rfl
    have hx : ∀ s, s < rows.length → tat (mv6 rows w) s < rows.length := fun s hs => by
      have : tat (mv6 rows w) s = goL rows w s := by rw [tat, mv6, mvF_at (by omega) hs]
      rw [this]; exact goL_lt6 v hok.1 hs
    have estr : doF (fun s => nx rows (tat (mv6 rows w) s) a) rows.length = encD rows.length (nxM rows (mv6 rows w) a) := by
      rw [encD, doF, doF]
      refine List.map_congr_left fun s hs => ?_
      have hs : s < rows.length := by simpa using hs
      rw [nxM, mvF_at (by omega) hs]; rfl
    have ekey : nxM rows (mv6 rows w) a = mv6 rows (extL w a) := (mv6_ltr rows n6 w (by omega)).symm
    have hoke := okW_ext hok.1 ha k3
    have hmem : encD rows.length (nxM rows (mv6 rows w) a) ∈ S.1.map (encD rows.length) ↔ nxM rows (mv6 rows w) a ∈ S.1 := by
      constructor
      · intro q
        obtain ⟨t, ht, e⟩ := List.mem_map.1 q
        rw [hS.eq] at ht
        obtain ⟨u, hu, rfl⟩ := List.mem_map.1 ht
        rw [ekey, encD_mv6 n6, encD_mv6 n6] at e
        have := doS_inj v (hS.ok u hu).1 hoke e
        rw [ekey, ← this, hS.eq]
        exact List.mem_map.2 ⟨u, hu, rfl⟩
      · exact fun q => List.mem_map.2 ⟨_, q, rfl⟩
    have B0 : Dw (upd h nx0 (some (.cells []))) M dv wv rows.length S lo nx0 := ⟨by rw [updNe (by have := D.mo; omega)]; exact D.o, D.d.fr (fun y y1 y2 _ => updNe (by omega)) (Nat.le_refl _), D.w.fr (fun y y1 y2 _ => updNe (by omega)) (Nat.le_refl _), D.dj, by rw [updNe (by have := D.mo; omega)]; exact D.z, D.mo, D.x⟩
    rw [bInE] at hk hf
    have st := of_row (gv := gv) (x2 := .ptr 0 0 2) hn v hx ha (M := M) (lo := lo) (i := i) (dv := dv) (wv := wv) hS1 (R := nx0) hlo (r := r) (K := KO4) rows.length 0 (upd h nx0 (some (.cells []))) (nx0 + 1) (by omega) B0 (by simp [doF, bysV]) (by omega) (fun h' nx' D' hrow hnx' => by
      have hM : h' M = some (.cells [dv, wv]) := D'.o
      have mo := D'.mo
      rw [estr] at hrow
      have elen : (encD rows.length (nxM rows (mv6 rows w) a)).length = rows.length := by simp [encD]
      have tk : (bysV (encD rows.length (nxM rows (mv6 rows w) a))).take rows.length = bysV (encD rows.length (nxM rows (mv6 rows w) a)) := List.take_of_length_le (by simp [elen])
      have hd5 := D'.d.deep 4 (fun x hx => by
        simp only [List.mem_map] at hx
        obtain ⟨b, _, rfl⟩ := hx
        rfl)
      have hw5 := D'.w.deep 4 (fun x hx => by
        simp only [List.mem_map] at hx
        obtain ⟨b, _, rfl⟩ := hx
        rfl)
      have hfs := fun m => find_spec' (ex := isF dv) (wv := .fsl (isF wv) (S.2.map AV.str).length (S.2.map .str)) rfl rfl (L := S.1.map (encD rows.length)) (s := encD rows.length (nxM rows (mv6 rows w) a)) (by simp; omega) m
      simp only [List.length_map] at hd5 hw5 hfs
      simp only [List.map_map] at hfs
      have hcl := D'.clo (by omega) (encD rows.length (nxM rows (mv6 rows w) a))
      by_cases hc : nxM rows (mv6 rows w) a ∈ S.1
      · rw [if_pos hc] at hk hf
        have hfp : fndI (S.1.map (encD rows.length)) (encD rows.length (nxM rows (mv6 rows w) a)) = (((S.1.map (encD rows.length)).idxOf (encD rows.length (nxM rows (mv6 rows w) a)) : Nat) : Int) := if_pos (hmem.2 hc)
        rw [hfp] at hfs hcl
        generalize (S.1.map (encD rows.length)).idxOf (encD rows.length (nxM rows (mv6 rows w) a)) = ix at hfs hcl
        have hix : ¬ ((ix : Nat) : Int) < 0 := by omega
        have st := ih (a + 1) h' nx' dv wv S (by omega) ⟨D'.o, D'.d.fr (fun _ _ _ _ => rfl) (by omega), D'.w.fr (fun _ _ _ _ => rfl) (by omega), D'.dj, D'.z, D'.mo, D'.x⟩ (by omega) hS hw hi hk hf
        simp only [Int.natCast_add, Int.cast_ofNat_Int] at st
        rw [r07_Of.L4_eq]
        rcases hcl with ⟨l1, l2, l3⟩ | ⟨l1, l2, _⟩
        · simp [KO4, hn.len, hM, D'.d.one, D'.w.one, convStr, srcA, hrow, elen, tk, bytesOf_bys, l1, l2, l3, hix, hwa]
          exact st
        · simp [KO4, hn.len, hM, D'.d.one, D'.w.one, convStr, srcA, hrow, elen, tk, bytesOf_bys, l1, l2, flat_int, hd5, hw5, hfs, hix, hwa]
          exact st
      · rw [if_neg hc] at hk hf
        have hfn : fndI (S.1.map (encD rows.length)) (encD rows.length (nxM rows (mv6 rows w) a)) = -1 := if_neg (fun q => hc (hmem.1 q))
        rw [hfn] at hfs hcl
        have hlt := fun m => rletter_spec (a := a) (by omega) m
        have hll : w.length + (ltr a).length ≤ 4611686018427387904 := by simp [ltr]; omega
        have oa := fun y e => (D'.d.oid (y := y) e)
        have og := fun y e => (D'.w.oid (y := y) e)
        obtain ⟨v1, h2, n2, g1, g2, g3, g4, g5, g6, g7⟩ := (D'.d.fr (h' := h') (hi' := nx') (fun _ _ _ _ => rfl) (by omega)).app (nx := nx' + 5) (by' := 16) (by omega) (by omega) (by simp; omega) (.str (encD rows.length (nxM rows (mv6 rows w) a)))
        have hv1 : ∀ y, objId v1 = some y → lo ≤ y ∧ (objId dv = some y ∨ y = nx' + 5) := fun y e => by
          rcases g5 y e with q | q
          · have := oa y q; exact ⟨this.1, .inl q⟩
          · exact ⟨by omega, .inr q⟩
        have ng1 : Nf h2 wv (S.2.map .str) lo nx0 := D'.w.fr (fun y y1 y2 ye => g6 y (fun e => by
          rcases g5 y e with q | q
          · exact D'.dj y q ye
          · omega)) (Nat.le_refl _)
        obtain ⟨p, hp1, hp2, hp3⟩ := ng1.at (i := i) (by simpa using hi2)
        have hs2 : (S.2.map AV.str)[i]? = some (.str w) := by simp [hw]
        rw [hs2] at hp2
        obtain ⟨v2, h3, n3, u1, u2, u3, u4, u5, u6, u7⟩ := ng1.app (nx := nx' + 17) (by' := 16) (by omega) (by omega) (by simp; omega) (.str (w ++ ltr a))
        have hv2 : ∀ y, objId v2 = some y → lo ≤ y ∧ (objId wv = some y ∨ y = nx' + 17) := fun y e => by
          rcases u5 y e with q | q
          · have := og y q; exact ⟨this.1, .inl q⟩
          · exact ⟨by omega, .inr q⟩
        have low : ∀ y, y < lo → h3 y = h' y := fun y hy => by
          rw [u6 y (fun e => by have := hv2 y e; omega), g6 y (fun e => by have := hv1 y e; omega)]
        have lo2 : ∀ y, y < lo → h2 y = h' y := fun y hy => g6 y (fun e => by have := hv1 y e; omega)
        have hM2 : h2 M = some (.cells [dv, wv]) := by rw [lo2 M mo.1]; exact hM
        have hM3 : h3 M = some (.cells [dv, wv]) := by rw [low M mo.1]; exact hM
        have h30 : h3 0 = some (.cells [.nils, .nils]) := by rw [low 0 (by omega)]; exact D'.z
        have a1 := ap_lt (z := M) (fun y e => (oa y e).1) mo.1
        have a2 : ap (objId dv) (objId p) = true := ap_ne (fun y e q => by rw [hp3] at q; exact D'.dj y e q)
        have len1 := g2.len
        simp only [List.length_append, List.length_map, List.length_singleton] at len1
        have hpos := List.length_pos_of_mem hwm
        have dj2 : ∀ y, objId v1 = some y → objId v2 ≠ some y := fun y e1 e2 => by
          rcases (hv1 y e1).2 with q | q
          · rcases (hv2 y e2).2 with q' | q'
            · exact D'.dj y q q'
            · have := oa y q; omega
          · rcases (hv2 y e2).2 with q' | q'
            · have := og y q'; omega
            · omega
        have eS1 : (S.1.map (encD rows.length)).map AV.str ++ [.str (encD rows.length (nxM rows (mv6 rows w) a))] = ((S.1 ++ [nxM rows (mv6 rows w) a]).map (encD rows.length)).map AV.str := by simp
        have eS2 : S.2.map AV.str ++ [.str (w ++ ltr a)] = (S.2 ++ [extL w a]).map AV.str := by simp [extL]
        rw [eS1] at g2
        rw [eS2] at u2
        have g2' : Nf (upd h3 M (some (.cells [v1, v2]))) v1 (((S.1 ++ [nxM rows (mv6 rows w) a]).map (encD rows.length)).map AV.str) lo (nx' + 22) := g2.fr (fun y y1 y2 ye => by rw [updNe (by omega), u6 y (dj2 y ye)]) (by omega)
        have u2' : Nf (upd h3 M (some (.cells [v1, v2]))) v2 ((S.2 ++ [extL w a]).map AV.str) lo (nx' + 22) := u2.fr (fun y y1 y2 ye => updNe (by omega)) (by omega)
        by_cases h400 : S.1.length = 400
        · rw [if_pos h400] at hf
          have hr := hf rfl
          have hgt : (400 : Int) < ((S.1.length + 1 : Nat) : Int) := by omega
          simp only [Int.natCast_add, Int.cast_ofNat_Int] at hgt
          have d1 := g2'.deep 4 (fun x hx => by
            simp only [List.mem_map] at hx
            obtain ⟨b, _, rfl⟩ := hx
            rfl)
          have d2 := u2'.deep 4 (fun x hx => by
            simp only [List.mem_map] at hx
            obtain ⟨b, _, rfl⟩ := hx
            rfl)
          have d1 := (g2'.fr (h' := upd (upd h3 M (some (.cells [v1, v2]))) 0 (some (.cells [v1, v2]))) (fun y y1 y2 _ => updNe (by omega)) (Nat.le_refl _)).deep 3 (fun x hx => by
            simp only [List.mem_map] at hx
            obtain ⟨b, _, rfl⟩ := hx
            rfl)
          have d2 := (u2'.fr (h' := upd (upd h3 M (some (.cells [v1, v2]))) 0 (some (.cells [v1, v2]))) (fun y y1 y2 _ => updNe (by omega)) (Nat.le_refl _)).deep 3 (fun x hx => by
            simp only [List.mem_map] at hx
            obtain ⟨b, _, rfl⟩ := hx
            rfl)
          have hM0 : ((0 : Nat) == M) = false := beq_eq_false_iff_ne.2 (by omega)
          have hx1 : decide ((S.2 ++ [extL w a]).length = 1) = false := decide_eq_false (by rw [List.length_append]; simp only [List.length_singleton]; omega)
          rw [hr, ofR, ofV, r07_Of.L4_eq]
          simp only [hx1, g7, u7, List.length_map] at d1 d2 ⊢
          rcases hcl with ⟨l1, l2, l3⟩ | ⟨l1, l2, _⟩
          · simp [KO4, hn.len, hM, D'.d.one, D'.w.one, convStr, srcA, hrow, elen, tk, bytesOf_bys, l1, l2, l3, g1, hM2, hM3, hp1, hp2, hlt, hll, u1, (show v1.one = true from g2.one), (show v2.one = true from u2.one), frz_64_69, frz_67, frz_64_71, frz_64_74, nsl, a1, a2, frzL, len1, hgt, hM0, h30, d1, d2]
            done
          · simp [KO4, hn.len, hM, D'.d.one, D'.w.one, convStr, srcA, hrow, elen, tk, bytesOf_bys, l1, l2, flat_int, hd5, hw5, hfs, g1, hM2, hM3, hp1, hp2, hlt, hll, u1, (show v1.one = true from g2.one), (show v2.one = true from u2.one), frz_64_69, frz_67, frz_64_71, frz_64_74, nsl, a1, a2, frzL, len1, hgt, hM0, h30, d1, d2]
            done
        · rw [if_neg h400] at hk hf
          have hgt : ¬ (400 : Int) < ((S.1.length + 1 : Nat) : Int) := by omega
          simp only [Int.natCast_add, Int.cast_ofNat_Int] at hgt
          have st := ih (a + 1) (upd h3 M (some (.cells [v1, v2]))) (nx' + 22) v1 v2 (S.1 ++ [nxM rows (mv6 rows w) a], S.2 ++ [extL w a]) (by omega)
            ⟨by simp, g2', u2', dj2, by rw [updNe (by omega)]; exact h30, D'.mo, by
              have : decide ((S.2 ++ [extL w a]).length = 1) = false := decide_eq_false (by rw [List.length_append]; simp only [List.length_singleton]; omega)
              exact ⟨by rw [g7]; exact this.symm, by rw [u7]; exact this.symm⟩⟩ (by omega)
            (hS.add n6 k3 hwm ha hc h400) (by rw [List.getElem?_append_left hi2]; exact hw) hi hk hf
          simp only [Int.natCast_add, Int.cast_ofNat_Int] at st
          rw [r07_Of.L4_eq]
          rcases hcl with ⟨l1, l2, l3⟩ | ⟨l1, l2, _⟩
          · simp [KO4, hn.len, hM, D'.d.one, D'.w.one, convStr, srcA, hrow, elen, tk, bytesOf_bys, l1, l2, l3, g1, hM2, hM3, hp1, hp2, hlt, hll, u1, (show v1.one = true from g2.one), (show v2.one = true from u2.one), frz_64_69, frz_67, frz_64_71, frz_64_74, nsl, a1, a2, frzL, len1, hgt, hwa]
            exact st
          · simp [KO4, hn.len, hM, D'.d.one, D'.w.one, convStr, srcA, hrow, elen, tk, bytesOf_bys, l1, l2, flat_int, hd5, hw5, hfs, g1, hM2, hM3, hp1, hp2, hlt, hll, u1, (show v1.one = true from g2.one), (show v2.one = true from u2.one), frz_64_69, frz_67, frz_64_71, frz_64_74, nsl, a1, a2, frzL, len1, hgt, hwa]
            exact st)
    simp only [Int.ofNat_zero, Int.cast_ofNat_Int, KO4] at st
    rw [r07_Of.L2_eq]
    simp [i0, j0, iw0.len, r0, ha]
    exact st
theorem of_out {nv gv : AV} {ps : List AV} {rows : List (List Int)} {good : List Bool} {k : Nat} (hn : IsRows nv ps rows) (v : VB rows good k) {M lo : Nat} :
    ∀ (f i : Nat) (h : Nat → Option AObj) (nx0 : Nat) (dv wv : AV) (S : SM), Dw h M dv wv rows.length S lo nx0 → lo ≤ nx0 → MOk rows k S → i ≤ S.1.length → 400 < f + i →
    r07_Of.L0 (.fptr [nv, gv]) (.ptr 0 0 2) (.ptr M 0 2) (.int .i64 i) ⟨h, nx0⟩ KO0 = some (ofR rows.length (bfsE rows k f i S), Mem.empty) := by
  intro f
  have n6 := v.n6
  have k3 := v.k3
  induction f with
  | zero => intro i h nx0 dv wv S D hlo hS hi hf; have := hS.le; omega
  | succ f ih =>
    intro i h nx0 dv wv S D hlo hS hi hf
    have hle := hS.le
    have hlen := hS.len
    have hM : h M = some (.cells [dv, wv]) := D.o
    have mo := D.mo
    have dl := D.d.len
    simp only [List.length_map] at dl
    by_cases c : i < S.1.length
    · have hx := List.getElem?_eq_getElem c
      have c2 : i < S.2.length := by rw [← hS.len]; exact c
      have hw := List.getElem?_eq_getElem c2
      generalize S.1[i] = x at hx
      generalize S.2[i] = w at hw
      have hxw := hS.at hx hw
      subst hxw
      have hwm := List.mem_of_getElem? hw
      rw [bfsE, hx, hw]
      simp only []
      have st := of_in (gv := gv) (M := M) (lo := lo) (i := i) (w := w) (r := some (ofR rows.length (if (bInE rows (mv6 rows w) w k 0 S).2 = true then bfsE rows k f (i + 1) (bInE rows (mv6 rows w) w k 0 S).1 else ((bInE rows (mv6 rows w) w k 0 S).1, false)), Mem.empty)) hn v k 0 h nx0 dv wv S (by omega) D hlo hS hw (by omega) (fun e h' nx' dv' wv' D' hlo' => by
        have hM := bInE_M rows (mv6 rows w) w k 0 S
        rw [if_pos e] at hM
        obtain ⟨h1, ⟨p, r, h2, h3⟩, h4⟩ := bInM_ok n6 k3 k 0 S _ (by omega) hS hwm hM
        have := ih (i + 1) h' nx' dv' wv' _ D' hlo' h1 (by rw [h2]; simp; omega) (by omega)
        simp only [Int.natCast_add, Int.cast_ofNat_Int] at this
        rw [if_pos e]
        exact this) (fun e => by rw [if_neg (by rw [e]; simp)])
      simp only [Int.ofNat_zero, Int.cast_ofNat_Int] at st
      rw [r07_Of.L0_eq]
      simp [hM, dl, c]
      exact st
    · have hx : S.1[i]? = none := List.getElem?_eq_none (by omega)
      have d1 := (D.d.fr (h' := upd h 0 (some (.cells [dv, wv]))) (fun y y1 y2 _ => updNe (by omega)) (Nat.le_refl _)).deep 3 (fun x hx => by
        simp only [List.mem_map] at hx
        obtain ⟨b, _, rfl⟩ := hx
        rfl)
      have d2 := (D.w.fr (h' := upd h 0 (some (.cells [dv, wv]))) (fun y y1 y2 _ => updNe (by omega)) (Nat.le_refl _)).deep 3 (fun x hx => by
        simp only [List.mem_map] at hx
        obtain ⟨b, _, rfl⟩ := hx
        rfl)
      have hM0 : ((0 : Nat) == M) = false := beq_eq_false_iff_ne.2 (by omega)
      rw [D.x.1] at d1
      rw [D.x.2] at d2
      simp only [List.length_map] at d1 d2
      have e0 : bfsE rows k (f + 1) i S = (S, true) := by rw [bfsE, hx]
      rw [e0, ofR, ofV, r07_Of.L0_eq]
      simp [hM, dl, c, KO0, D.d.one, D.w.one, D.z, d1, d2]
      done
def ofE (rows : List (List Int)) (k : Nat) : SM × Bool := bfsE rows k 401 0 ([mv6 rows []], [[]])
theorem ofE_made (rows : List (List Int)) (k : Nat) : madeS rows k = if (ofE rows k).2 = true then some (ofE rows k).1 else none := bfsE_M rows k 401 0 _
theorem of_spec {nv gv : AV} {ps : List AV} {rows : List (List Int)} {good : List Bool} {k : Nat} (hn : IsRows nv ps rows) (hg : IsB gv good) (v : VB rows good k) (m : Mem) :
    denC prog ann 41 [.agg [nv, gv]] m = some (ofR rows.length (ofE rows k), m) := by
  have n6 := v.n6
  have hno := fun m => nothing_spec (n := rows.length) n6 m
  have e1 : doF (fun s => s) rows.length = encD rows.length (mv6 rows []) := (encD_mv6 n6 []).symm
  have st := of_out (gv := gv) hn v (M := 1) (lo := 2) 401 0 (upd (upd (upd Mem.empty.h 0 (some (.cells [.nils, .nils]))) 1 (some (.cells [.nils, .nils]))) 1 (some (.cells [.fsl true 1 [.str (doF (fun s => s) rows.length)], .fsl true 1 [.str []]]))) 2 (.fsl true 1 [.str (doF (fun s => s) rows.length)]) (.fsl true 1 [.str []]) ([mv6 rows []], [[]])
    ⟨by simp, .inl (by rw [e1]; rfl), .inl rfl, by simp [objId], by simp, by omega, rfl, rfl⟩ (by omega) (MOk1 _ _) (by simp) (by omega)
  simp only [Int.ofNat_zero, Int.cast_ofNat_Int, KO0] at st
  rw [r07_Of.call_eq _ _ (by simp [hn.closed, hg.closed])]
  simp [hn.one, hg.one, hn.closed, hg.closed, hn.len, hno]
  simp at st
  rw [st]
  rfl
end Go.Proofs.Ythnpflkpjimkfaa

/-
  PRODUCTS, ELEMENTS, IDEMPOTENTS: the specification's; lists of strings that are the same. Conditions: none.
-/
namespace Go.Proofs.Ythnpflkpjimkfaa
open Go.AM
open Go.Proofs.Try (prog)
set_option linter.all false
set_option maxRecDepth 100000
set_option maxHeartbeats 8000000

theorem goL_app (rows : List (List Int)) : ∀ (u w : List UInt8) (s : Nat), goL rows (u ++ w) s = goL rows w (goL rows u s)
  | [], w, s => rfl
  | c :: u, w, s => by rw [List.cons_append, goL, goL, goL_app rows u w]
section
variable {rows : List (List Int)} {good : List Bool} {k : Nat} {S : SM}
theorem encD_nd (v : VB rows good k) (W : MW rows k S) : (S.1.map (encD rows.length)).Nodup := by
  have n6 := v.n6
  rw [List.Nodup, List.pairwise_iff_getElem]
  intro i j hi hj hij e
  simp only [List.length_map] at hi hj
  simp only [List.getElem_map] at e
  obtain ⟨_, a2, _, a4⟩ := W.wok hi
  obtain ⟨_, b2, _, b4⟩ := W.wok hj
  have a5 := (List.getElem?_eq_some_iff.1 a4).2
  have b5 := (List.getElem?_eq_some_iff.1 b4).2
  rw [a5, b5, encD_mv6 n6, encD_mv6 n6] at e
  have := doS_inj v a2 b2 e
  rw [← a5, ← b5] at this
  exact List.pairwise_iff_getElem.1 W.ok.nd i j hi hj hij this
theorem fnd_num (v : VB rows good k) (W : MW rows k S) {w : List UInt8} (hw : okW k w) : fndI (S.1.map (encD rows.length)) (doS rows w) = (numM rows S w : Nat) := by
  have n6 := v.n6
  have hm := W.all n6 v.k3 hw
  have hlt := W.lt n6 v.k3 hw
  have hat := W.at n6 v.k3 hw
  have hL : numM rows S w < (S.1.map (encD rows.length)).length := by simpa using hlt
  have e : (S.1.map (encD rows.length))[numM rows S w] = doS rows w := by
    rw [List.getElem_map, (List.getElem?_eq_some_iff.1 hat).2, encD_mv6 n6]
  have hin : doS rows w ∈ S.1.map (encD rows.length) := e ▸ List.getElem_mem hL
  rw [fndI, if_pos hin]
  have := (encD_nd v W).idxOf_getElem _ hL
  rw [e] at this
  rw [this]
theorem dos_head (v : VB rows good k) (W : MW rows k S) {i : Nat} (hi : i < S.1.length) : (((S.1.map (encD rows.length)).map AV.str).drop i).head? = some (.str (doS rows (wrd S i))) := by
  obtain ⟨_, a2, _, a4⟩ := W.wok hi
  rw [List.head?_drop, List.getElem?_map, List.getElem?_map, a4]
  simp [encD_mv6 v.n6]
theorem doS_idx (v : VB rows good k) {w : List UInt8} (hw : okW k w) {s : Nat} (hs : s < rows.length) (kk : IntKind) : idxStr (.str (doS rows w)) (.int kk (s : Int)) = some (.int .u8 (goL rows w s : Nat)) := by
  have : (doS rows w)[s]? = some (UInt8.ofNat (goL rows w s)) := doF_at hs
  have h6 : (UInt8.ofNat (goL rows w s)).toNat = goL rows w s := ofNat6 (by have := goL_lt6 v hw hs; have := v.n6; omega)
  have hl : (doS rows w).length = rows.length := by simp [doS]
  rw [idxStr_str, hl]
  simp only [Int.toNat_natCast, this, Option.map_some, h6]
  simp [inR, hs]
end
def ofD (n : Nat) (S : SM) : AV := .fsl (decide (S.2.length = 1)) S.1.length ((S.1.map (encD n)).map .str)
theorem times_loop {rows : List (List Int)} {good : List Bool} {k : Nat} (v : VB rows good k) {S : SM} (W : MW rows k S) {i j : Nat} (hi : i < S.1.length) (hj : j < S.1.length) : ∀ (c s nx0 : Nat) (h : Nat → Option AObj), s + c = rows.length → h 0 = some (.cells (bysV (doF (fun s => goL rows (wrd S j) (goL rows (wrd S i) s)) s))) → 0 < nx0 →
    r07_Monoid_Times.L0 (.int .i64 i) (.int .i64 j) (.fptr [ofD rows.length S, wdsV S]) (.sl 0 1 0 s s) (.int .i64 s) ⟨h, nx0⟩ [.code r07_Monoid_Times.r6, .code .ret] = some (.int .i64 (numM rows S (wrd S i ++ wrd S j) : Nat), Mem.empty) := by
  intro c
  have n6 := v.n6
  obtain ⟨_, a2, _, a4⟩ := W.wok hi
  obtain ⟨_, b2, _, b4⟩ := W.wok hj
  have hdi := dos_head v W hi
  have hdj := dos_head v W hj
  have hli : (doS rows (wrd S i)).length = rows.length := by simp [doS]
  induction c with
  | zero =>
    intro s nx0 h h1 h0 hnx
    have e : s = rows.length := by omega
    subst e
    have e2 : doF (fun s => goL rows (wrd S j) (goL rows (wrd S i) s)) rows.length = doS rows (wrd S i ++ wrd S j) := by
      rw [doS]; congr 1; funext s; rw [goL_app]
    rw [e2] at h0
    have elen : (doS rows (wrd S i ++ wrd S j)).length = rows.length := by simp [doS]
    have tk : (bysV (doS rows (wrd S i ++ wrd S j))).take rows.length = bysV (doS rows (wrd S i ++ wrd S j)) := List.take_of_length_le (by simp [elen])
    have hf := fun m => find_spec' (ex := decide (S.2.length = 1)) (wv := wdsV S) rfl rfl (L := S.1.map (encD rows.length)) (s := doS rows (wrd S i ++ wrd S j)) (by have := W.ok.le; simp; omega) m
    rw [fnd_num v W (okW_app a2 b2)] at hf
    simp only [List.length_map, List.map_map] at hf hdi hdj
    rw [r07_Monoid_Times.L0_eq]
    simp only [ofD, wdsV] at hf ⊢
    simp [hi, hdi, hli, convStr, srcA, h0, elen, tk, bytesOf_bys, hf, -List.head?_drop, -List.map_drop]
    done
  | succ c ih =>
    intro s nx0 h h1 h0 hnx
    have hs : s < rows.length := by omega
    have hws : IntKind.wrap .i64 ((s : Int) + 1) = (s : Int) + 1 := wrap_id (by omega) (by omega)
    have hg := goL_lt6 v a2 hs
    have x1 := doS_idx v a2 hs .i64
    have x2 := doS_idx v b2 hg .u8
    have hg2 := goL_lt6 v b2 hg
    have hc := doF_cell (f := fun s => goL rows (wrd S j) (goL rows (wrd S i) s)) (c := s) (by omega)
    have st := ih (s + 1) (nx0 + 17) (upd h 0 (some (.cells (bysV (doF (fun s => goL rows (wrd S j) (goL rows (wrd S i) s)) (s + 1)))))) (by omega) (by simp) (by omega)
    simp only [Int.natCast_add, Int.cast_ofNat_Int] at st
    rw [r07_Monoid_Times.L0_eq]
    simp only [List.map_map] at hdi hdj
    simp only [ofD, wdsV] at st ⊢
    simp at st
    simp [hi, hj, hdi, hdj, hli, hs, x1, x2, h0, hc, hws, show s ≤ 4611686018427387903 by omega, show s + 1 ≤ 70368744177664 by omega, st, -List.head?_drop, -List.map_drop, -idxStr_str]
    done
theorem times_spec {rows : List (List Int)} {good : List Bool} {k : Nat} (v : VB rows good k) {S : SM} (W : MW rows k S) {i j : Nat} (hi : i < S.1.length) (hj : j < S.1.length) (m : Mem) :
    denC prog ann 74 [ofV rows.length S, .int .i64 (i : Int), .int .i64 (j : Int)] m = some (.int .i64 (numM rows S (wrd S i ++ wrd S j) : Nat), m) := by
  have lp := times_loop v W hi hj rows.length 0 1 (upd Mem.empty.h 0 (some (.cells []))) (by omega) (by simp [doF, bysV]) (by omega)
  simp only [Int.ofNat_zero, Int.cast_ofNat_Int, ofD, wdsV] at lp
  rw [ofV, r07_Monoid_Times.call_eq _ _ _ _ (by simp)]
  simp at lp
  simp [lp]
  done
end Go.Proofs.Ythnpflkpjimkfaa

/-
  ELEMENTS AND IDEMPOTENTS: the specification's; lists of strings that are the same. Conditions: none.
-/
namespace Go.Proofs.Ythnpflkpjimkfaa
open Go.AM
open Go.Proofs.Try (prog)
set_option linter.all false
set_option maxRecDepth 100000
set_option maxHeartbeats 8000000

theorem relem_loop {nv gv : AV} {ps : List AV} {rows : List (List Int)} {good : List Bool} {k : Nat} (hn : IsRows nv ps rows) (hg : IsB gv good) (v : VB rows good k) {S : SM} (W : MW rows k S) {w : List UInt8} (hw : okW k w) (hwl : w.length ≤ 1000000) : ∀ (c s nx0 : Nat) (h : Nat → Option AObj), s + c = rows.length → h 0 = some (.cells (bysV (doF (fun s => goL rows w s) s))) →
    r07_Monoid_Element.L0 (.str w) (.fptr [ofD rows.length S, wdsV S]) (.fptr [nv, gv]) (.sl 0 1 0 s s) (.int .i64 s) ⟨h, nx0⟩ [.code r07_Monoid_Element.r6, .code .ret] = some (.int .i64 (numM rows S w : Nat), Mem.empty) := by
  intro c
  have n6 := v.n6
  induction c with
  | zero =>
    intro s nx0 h h1 h0
    have e : s = rows.length := by omega
    subst e
    have e2 : doF (fun s => goL rows w s) rows.length = doS rows w := rfl
    rw [e2] at h0
    have elen : (doS rows w).length = rows.length := by simp [doS]
    have tk : (bysV (doS rows w)).take rows.length = bysV (doS rows w) := List.take_of_length_le (by simp [elen])
    have hf := fun m => find_spec' (ex := decide (S.2.length = 1)) (wv := wdsV S) rfl rfl (L := S.1.map (encD rows.length)) (s := doS rows w) (by have := W.ok.le; simp; omega) m
    rw [fnd_num v W hw] at hf
    simp only [List.length_map, List.map_map] at hf
    rw [r07_Monoid_Element.L0_eq]
    simp only [ofD, wdsV] at hf ⊢
    simp [hn.len, convStr, srcA, h0, elen, tk, bytesOf_bys, hf]
    done
  | succ c ih =>
    intro s nx0 h h1 h0
    have hs : s < rows.length := by omega
    have hws : IntKind.wrap .i64 ((s : Int) + 1) = (s : Int) + 1 := wrap_id (by omega) (by omega)
    have hgo := fun m => go_spec hn hg v hwl ((letF_iff k w).2 hw) hs m
    have hg1 := goL_lt6 v hw hs
    have hw8 := wrap8n (x := goL rows w s) (by omega)
    have hc := doF_cell (f := fun s => goL rows w s) (c := s) (by omega)
    have st := ih (s + 1) nx0 (upd h 0 (some (.cells (bysV (doF (fun s => goL rows w s) (s + 1)))))) (by omega) (by simp)
    simp only [Int.natCast_add, Int.cast_ofNat_Int] at st
    rw [r07_Monoid_Element.L0_eq]
    simp [hn.len, hs, hn.one, hg.one, hn.closed, hg.closed, hgo, hw8, h0, hc, hws, show s ≤ 4611686018427387903 by omega, show s + 1 ≤ 70368744177664 by omega, st]
    done
theorem relem_spec {nv gv : AV} {ps : List AV} {rows : List (List Int)} {good : List Bool} {k : Nat} (hn : IsRows nv ps rows) (hg : IsB gv good) (v : VB rows good k) {S : SM} (W : MW rows k S) {w : List UInt8} (hw : okW k w) (hwl : w.length ≤ 1000000) (m : Mem) :
    denC prog ann 43 [ofV rows.length S, .agg [nv, gv], .str w] m = some (.int .i64 (numM rows S w : Nat), m) := by
  have lp := relem_loop hn hg v W hw hwl rows.length 0 1 (upd Mem.empty.h 0 (some (.cells []))) (by omega) (by simp [doF, bysV])
  simp only [Int.ofNat_zero, Int.cast_ofNat_Int, ofD, wdsV] at lp
  rw [ofV, r07_Monoid_Element.call_eq _ _ _ _ (by simp [hn.closed, hg.closed])]
  simp at lp
  simp [hn.one, hg.one, hn.closed, hg.closed, lp]
  done
def strsF (l : List (List UInt8)) : AV := .fsl false l.length (l.map .str)
theorem ridm_loop {rows : List (List Int)} {good : List Bool} {k : Nat} (v : VB rows good k) {S : SM} (W : MW rows k S) : ∀ (c i nx0 : Nat) (h : Nat → Option AObj) (l : List (List UInt8)), i + c = S.1.length → h 0 = some (.cells (l.map .str)) → l.length ≤ i →
    r07_Monoid_Idempotents.L0 (.fptr [ofD rows.length S, wdsV S]) (.sl 0 1 0 l.length l.length) (.int .i64 i) ⟨h, nx0⟩ [.code r07_Monoid_Idempotents.r7, .code .ret] = some (strsF (l ++ idmL rows S c i), Mem.empty) := by
  intro c
  have hle := W.ok.le
  have hlen := W.ok.len
  induction c with
  | zero =>
    intro i nx0 h l h1 h0 hli
    have e : i = S.1.length := by omega
    subst e
    have tk : (l.map AV.str).take l.length = l.map AV.str := List.take_of_length_le (by simp)
    have hm : ∀ d, mapO (AM.deep h (d + 1)) (l.map AV.str) = some (l.map AV.str) := fun d => mapO_same _ (fun x hx => by
      simp only [List.mem_map] at hx
      obtain ⟨b, _, rfl⟩ := hx
      rfl)
    simp only [idmL, List.range'_zero, List.filter_nil, List.map_nil, List.append_nil]
    rw [r07_Monoid_Idempotents.L0_eq]
    simp only [ofD, wdsV]
    simp [h0, tk, hm, strsF, -List.map_take]
    done
  | succ c ih =>
    intro i nx0 h l h1 h0 hli
    have hi : i < S.1.length := by omega
    have hi2 : i < S.2.length := by omega
    have hwi : IntKind.wrap .i64 ((i : Int) + 1) = (i : Int) + 1 := wrap_id (by omega) (by omega)
    obtain ⟨w1, w2, w3, w4⟩ := W.wok (i := i) (by omega)
    have htm := fun m => times_spec v W hi hi m
    have hd : ((S.2.map AV.str).drop i).head? = some (.str (wrd S i)) := by rw [List.head?_drop, List.getElem?_map, w1]; rfl
    rw [show idmL rows S (c + 1) i = (if numM rows S (wrd S i ++ wrd S i) = i then [wrd S i] else []) ++ idmL rows S c (i + 1) by
      rw [idmL, List.range'_succ, List.filter_cons]
      by_cases q : numM rows S (wrd S i ++ wrd S i) = i
      · simp [q, idmL]
      · simp [q, idmL]]
    rw [← List.append_assoc]
    simp only [ofV, List.map_map] at htm
    by_cases q : numM rows S (wrd S i ++ wrd S i) = i
    · rw [if_pos q]
      rw [q] at htm
      have st := ih (i + 1) nx0 (upd h 0 (some (.cells ((l ++ [wrd S i]).map .str)))) (l ++ [wrd S i]) (by omega) (by simp) (by simp; omega)
      simp only [Int.natCast_add, Int.cast_ofNat_Int] at st
      rw [r07_Monoid_Idempotents.L0_eq]
      simp only [ofD, wdsV] at st ⊢
      simp at st
      simp [hi, hi2, hd, htm, h0, hwi, st, show l.length ≤ 4611686018427387903 by omega, show (l.length + 1) * 16 ≤ 70368744177664 by omega, -List.head?_drop, -List.map_drop]
      done
    · rw [if_neg q, List.append_nil]
      have st := ih (i + 1) nx0 h l (by omega) h0 (by omega)
      simp only [Int.natCast_add, Int.cast_ofNat_Int] at st
      have q' : ¬ ((numM rows S (wrd S i ++ wrd S i) : Nat) : Int) = i := by omega
      rw [r07_Monoid_Idempotents.L0_eq]
      simp only [ofD, wdsV] at st ⊢
      simp at st
      simp [hi, hi2, hd, htm, q', h0, hwi, st, -List.head?_drop, -List.map_drop]
      done
theorem ridm_spec {rows : List (List Int)} {good : List Bool} {k : Nat} (v : VB rows good k) {S : SM} (W : MW rows k S) (m : Mem) :
    denC prog ann 42 [ofV rows.length S] m = some (strsF (idmL rows S S.1.length 0), m) := by
  have lp := ridm_loop v W S.1.length 0 1 (upd Mem.empty.h 0 (some (.cells []))) [] (by omega) (by simp) (by simp)
  simp only [Int.ofNat_zero, Int.cast_ofNat_Int, ofD, wdsV, List.nil_append] at lp
  rw [ofV, r07_Monoid_Idempotents.call_eq _ _ (by simp)]
  simp at lp
  simp [lp]
  done
/-- A list of strings, nil or not. -/
def IsS (v : AV) (l : List (List UInt8)) : Prop := (v = .nils ∧ l = []) ∨ ∃ ex, v = .fsl ex l.length (l.map .str)
theorem IsS.len {v : AV} {l : List (List UInt8)} (h : IsS v l) : lenSl v = some (.int .i64 l.length) := by rcases h with ⟨rfl, rfl⟩ | ⟨_, rfl⟩ <;> rfl
theorem IsS.closed {v : AV} {l : List (List UInt8)} (h : IsS v l) : v.closed = true := by rcases h with ⟨rfl, rfl⟩ | ⟨_, rfl⟩ <;> rfl
theorem IsS.one {v : AV} {l : List (List UInt8)} (h : IsS v l) : v.one = true := by rcases h with ⟨rfl, rfl⟩ | ⟨_, rfl⟩ <;> rfl
theorem IsS.idx {v : AV} {l : List (List UInt8)} (h : IsS v l) {i : Nat} (hi : i < l.length) (k : IntKind) : idxSl 1 v (.int k (i : Int)) = some (.fptr ((l.map .str).drop i)) := by
  rcases h with ⟨rfl, rfl⟩ | ⟨_, rfl⟩
  · simp at hi
  · simp [hi]
theorem strsV_is (l : List (List UInt8)) : IsS (strsV l) l := by
  unfold strsV
  split
  · rename_i e; exact .inl ⟨rfl, e⟩
  · exact .inr ⟨_, rfl⟩
theorem strsF_is (l : List (List UInt8)) : IsS (strsF l) l := .inr ⟨_, rfl⟩
theorem wdsV_is (S : SM) : IsS (wdsV S) S.2 := .inr ⟨_, rfl⟩
theorem str_head {l : List (List UInt8)} {i : Nat} (hi : i < l.length) : ((l.map AV.str).drop i).head? = some (.str l[i]) := by
  rw [List.head?_drop]; simp [hi]
theorem same_loop {v v' : AV} {l : List (List UInt8)} (h : IsS v l) (h' : IsS v' l) (hl : l.length ≤ 1000) : ∀ (c j : Nat) (m : Mem), j + c = l.length →
    r07_Same.L0 v v' (.int .i64 j) m [.code r07_Same.r8, .code .ret] = some (.bool true, Mem.empty) := by
  intro c
  induction c with
  | zero =>
    intro j m h1
    have e : j = l.length := by omega
    subst e
    rw [r07_Same.L0_eq]
    simp [h.len]
    done
  | succ c ih =>
    intro j m h1
    have hj : j < l.length := by omega
    have hwj : IntKind.wrap .i64 ((j : Int) + 1) = (j : Int) + 1 := wrap_id (by omega) (by omega)
    have hd := str_head hj
    have st := fun m => ih (j + 1) m (by omega)
    simp only [Int.natCast_add, Int.cast_ofNat_Int] at st
    rw [r07_Same.L0_eq]
    simp [h.len, hj, h.idx hj, h'.idx hj, hd, hwj, st, -List.head?_drop, -List.map_drop]
    done
theorem same_refl {v v' : AV} {l : List (List UInt8)} (h : IsS v l) (h' : IsS v' l) (hl : l.length ≤ 1000) (m : Mem) : denC prog ann 38 [v, v'] m = some (.bool true, m) := by
  have lp := fun m => same_loop h h' hl l.length 0 m (by omega)
  simp only [Int.ofNat_zero, Int.cast_ofNat_Int] at lp
  rw [r07_Same.call_eq _ _ _ (by simp [h.closed, h'.closed])]
  simp [h.len, h'.len, lp]
  done
end Go.Proofs.Ythnpflkpjimkfaa

/-
  BrandAccepts: the law answers true. Conditions: none.
-/
namespace Go.Proofs.Ythnpflkpjimkfaa
open Go.AM
open Go.Proofs.Try (prog)
set_option linter.all false
set_option maxRecDepth 100000
set_option maxHeartbeats 8000000

theorem IsRows.cells {v : AV} {ps : List AV} {rows : List (List Int)} (h : IsRows v ps rows) : v.cells = [v] := by rcases h.val with ⟨rfl, _⟩ | ⟨_, rfl⟩ <;> rfl
end Go.Proofs.Ythnpflkpjimkfaa

/-
  BrandMonoids: the law answers true. Conditions: none.
-/
namespace Go.Proofs.Ythnpflkpjimkfaa
open Go.AM
open Go.Proofs.Try (prog)
set_option linter.all false
set_option maxRecDepth 100000
set_option maxHeartbeats 8000000

theorem mon_runs {d : Nat} (a0 a1 : AV) (h0 : DatV prog (d + 4) 25 a0) (h1 : DatV prog (d + 4) 9 a1) : ∃ m', denC prog ann 9 [a0, a1] Mem.empty = some (.bool true, m') := by
  obtain ⟨nv, gv, ps, rows, good, rfl, hn, hg, hgl, hrl⟩ := datV25 h0
  obtain ⟨s, rfl⟩ := datV9 h1
  obtain ⟨nv1, gv1, ps1, hn1, hg1, hc1⟩ := cut_spec hn hg hgl hrl
  have hsh := fun m => short_spec s m
  have hl1 := cutR_len rows
  have hr1 : ∀ i, i < (cutR rows).length → (cth (cutR rows) i).length ≤ 1000 := fun i hi => by have := cutR_row rows i hi; omega
  have hg71 : (good.take 7).length ≤ 7 := by simp; omega
  have hs201 : (s.take 201).length ≤ 1000 := by simp; omega
  have hcl : closedL [.agg [nv, gv], .str s] = true := by simp [hn.closed, hg.closed]
  generalize s.take 201 = t at *
  generalize good.take 7 = gd at *
  generalize cutR rows = R at *
  have ha := fun m => monoid_spec hn1 hg1 (by omega) (by omega) hr1 m
  have hb := fun m => idm_spec hn1 hg1 (by omega) (by omega) hr1 m
  have he := fun m => element_spec hn1 hg1 (by omega) (by omega) hr1 (s := t) (by omega) m
  have hv1 := fun m => rvalid_spec hn1 hg1 (by omega) (by omega) hr1 m
  refine ⟨Mem.empty, ?_⟩
  rw [l07_BrandMonoids.call_eq _ _ _ hcl]
  cases c1 : validB R gd with
  | false =>
    rw [c1] at ha hb he hv1
    simp [hn.one, hg.one, hn.closed, hg.closed, hc1, hsh, hn1.one, hg1.one, hn1.closed, hg1.closed, hn1.cells, hg1.cells, ha, hb, he, hv1, lives_spec]
    done
  | true =>
    rw [c1, if_pos rfl] at ha hb he
    rw [c1] at hv1
    have v := VB.of c1
    have hm := isRows_M R gd (cth R 0).length
    have hg2 := isB_M R gd (cth R 0).length
    have vm := VB_M v
    have hsm := fun m => rsmallest_spec hn1 hg1 v m
    rw [resV_eq] at hsm
    have hof := fun m => of_spec hm hg2 vm m
    have hw := fun m => word_spec hn1 hg1 v.n1 (by have := v.k3; omega) (s := t) (by omega) m
    have hmd := ofE_made (rowsM R gd (cth R 0).length) (cth R 0).length
    have hmb : madeB R gd (cth R 0).length = madeS (rowsM R gd (cth R 0).length) (cth R 0).length := rfl
    rw [hmd] at hmb
    cases e : (ofE (rowsM R gd (cth R 0).length) (cth R 0).length).2 with
    | false =>
      rw [if_neg (by rw [e]; simp)] at hmb
      rw [hmb] at ha hb he
      simp only [ofR, ofV, e] at hof
      by_cases ew : wordE (cth R 0).length t = 0
      · rw [if_pos ew] at he
        rw [ew] at hw
        simp [hn.one, hg.one, hn.closed, hg.closed, hc1, hsh, hn1.one, hg1.one, hn1.closed, hg1.closed, hn1.cells, hg1.cells, hm.one, hg2.one, hm.closed, hg2.closed, hm.cells, hg2.cells, ha, hb, he, hv1, hsm, hof, hw, lives_spec]
        done
      · rw [if_neg ew] at he
        simp [hn.one, hg.one, hn.closed, hg.closed, hc1, hsh, hn1.one, hg1.one, hn1.closed, hg1.closed, hn1.cells, hg1.cells, hm.one, hg2.one, hm.closed, hg2.closed, hm.cells, hg2.cells, ha, hb, he, hv1, hsm, hof, hw, ew, lives_spec]
        done
    | true =>
      rw [if_pos e] at hmb
      rw [hmb] at ha hb he
      have W := MW_of v hmb
      have wl := W.ok.le
      have wle := W.ok.len
      have hri := fun m => ridm_spec vm W m
      simp only [ofR, e] at hof
      generalize (ofE (rowsM R gd (cth R 0).length) (cth R 0).length).1 = S at *
      have idl : (idmL (rowsM R gd (cth R 0).length) S S.1.length 0).length ≤ 1000 := by
        have := List.length_filter_le (fun i => numM (rowsM R gd (cth R 0).length) S (wrd S i ++ wrd S i) == i) (List.range' 0 S.1.length)
        simp only [List.length_range'] at this
        rw [idmL, List.length_map]; omega
      have hs1 := fun m => same_refl (wdsV_is S) (wdsV_is S) (by omega) m
      have hs2 := fun m => same_refl (strsV_is (idmL (rowsM R gd (cth R 0).length) S S.1.length 0)) (strsF_is (idmL (rowsM R gd (cth R 0).length) S S.1.length 0)) idl m
      have o1 := (strsV_is (idmL (rowsM R gd (cth R 0).length) S S.1.length 0)).one
      have o2 := (strsV_is (idmL (rowsM R gd (cth R 0).length) S S.1.length 0)).closed
      have o3 := (strsF_is (idmL (rowsM R gd (cth R 0).length) S S.1.length 0)).one
      have o4 := (strsF_is (idmL (rowsM R gd (cth R 0).length) S S.1.length 0)).closed
      have q1 := (wdsV_is S).one
      have q2 := (wdsV_is S).closed
      by_cases ew : wordE (cth R 0).length t = 0
      · rw [if_pos ew] at he
        rw [ew] at hw
        obtain ⟨hsl, hok⟩ := wordE0 ew
        have hre := fun m => relem_spec hm hg2 vm W hok (by omega) m
        have hlt := W.lt vm.n6 vm.k3 hok
        obtain ⟨w1, w2, w3, w4⟩ := W.wok hlt
        have hl2 : numM (rowsM R gd (cth R 0).length) S t < S.2.length := by omega
        have hd : ((S.2.map AV.str).drop (numM (rowsM R gd (cth R 0).length) S t)).head? = some (.str (wrd S (numM (rowsM R gd (cth R 0).length) S t))) := by rw [List.head?_drop, List.getElem?_map, w1]; rfl
        simp only [ofV, List.map_map] at hof hri hre
        simp only [wdsV] at hs1 ha q1 q2
        simp [hn.one, hg.one, hn.closed, hg.closed, hc1, hsh, hn1.one, hg1.one, hn1.closed, hg1.closed, hn1.cells, hg1.cells, hm.one, hg2.one, hm.closed, hg2.closed, hm.cells, hg2.cells, ha, hb, he, hv1, hsm, hof, hw, hs1, hs2, hri, o1, o2, o3, o4, hre, hl2, hd, lives_spec, -List.head?_drop, -List.map_drop]
        done
      · rw [if_neg ew] at he
        simp only [ofV, List.map_map] at hof hri
        simp only [wdsV] at hs1 ha q1 q2
        simp [hn.one, hg.one, hn.closed, hg.closed, hc1, hsh, hn1.one, hg1.one, hn1.closed, hg1.closed, hn1.cells, hg1.cells, hm.one, hg2.one, hm.closed, hg2.closed, hm.cells, hg2.cells, ha, hb, he, hv1, hsm, hof, hw, hs1, hs2, hri, o1, o2, o3, o4, ew, lives_spec]
        done
end Go.Proofs.Ythnpflkpjimkfaa
