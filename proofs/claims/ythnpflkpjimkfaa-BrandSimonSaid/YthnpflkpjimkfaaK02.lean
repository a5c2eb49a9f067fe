/-
  LISTS THAT ARE NIL OR AN OBJECT OF THEIR OWN. Conditions: none.
-/
import Derived.Test.YthnpflkpjimkfaaK00
import Derived.Test.YthnpflkpjimkfaaK01
import Derived.Test.YthnpflkpjimkfaaKAmH
set_option linter.all false
namespace Go.Proofs.Ythnpflkpjimkfaa
open Go.AM
open Go.Proofs.Try (prog)
set_option linter.all false
set_option maxRecDepth 100000
set_option maxHeartbeats 4000000
theorem Gl.oid {m : Mem} {v : AV} {id sz n : Nat} {xs : List AV} (h : Gl m v id sz n xs) : objId v = some id := by
  obtain ⟨⟨pre, rfl, hm⟩, hn, hl⟩ := h; rfl
def Nl (h : Nat → Option AObj) (v : AV) (xs : List AV) (lo hi : Nat) : Prop := (v = .nils ∧ xs = []) ∨ ∃ R, v = .sl R 1 0 xs.length xs.length ∧ h R = some (.cells xs) ∧ lo ≤ R ∧ R < hi
section
variable {h h' : Nat → Option AObj} {v : AV} {xs : List AV} {lo hi hi' : Nat}
theorem Nl.nil : Nl h .nils [] lo hi := .inl ⟨rfl, rfl⟩
theorem Nl.fr (n : Nl h v xs lo hi) (e : ∀ y, lo ≤ y → y < hi → objId v = some y → h' y = h y) (l : hi ≤ hi') : Nl h' v xs lo hi' := by
  rcases n with ⟨rfl, rfl⟩ | ⟨R, rfl, h1, h2, h3⟩
  · exact .nil
  · exact .inr ⟨R, rfl, by rw [e R h2 h3 rfl, h1], h2, by omega⟩
theorem Nl.one (n : Nl h v xs lo hi) : v.one = true := by
  rcases n with ⟨rfl, rfl⟩ | ⟨R, rfl, h1, h2, h3⟩ <;> rfl
theorem Nl.cells (n : Nl h v xs lo hi) : v.cells = [v] := by
  rcases n with ⟨rfl, rfl⟩ | ⟨R, rfl, h1, h2, h3⟩ <;> rfl
theorem Nl.oid (n : Nl h v xs lo hi) {y : Nat} (e : objId v = some y) : lo ≤ y ∧ y < hi := by
  rcases n with ⟨rfl, rfl⟩ | ⟨R, rfl, h1, h2, h3⟩
  · cases e
  · simp [objId] at e; omega
theorem Nl.len (n : Nl h v xs lo hi) : lenSl v = some (.int .i64 xs.length) := by
  rcases n with ⟨rfl, rfl⟩ | ⟨R, rfl, h1, h2, h3⟩ <;> rfl
theorem mapO_same {f : AV → Option AV} : ∀ l : List AV, (∀ x ∈ l, f x = some x) → mapO f l = some l
  | [], _ => rfl
  | a :: l, q => by simp [mapO, q a (by simp), mapO_same l (fun x hx => q x (by simp [hx]))]
theorem Nl.deep (n : Nl h v xs lo hi) (d : Nat) (hd : ∀ x ∈ xs, AM.deep h d x = some x) (h0 : v ≠ .nils) : AM.deep h (d + 1) v = some (.fsl false xs.length xs) := by
  rcases n with ⟨rfl, rfl⟩ | ⟨R, rfl, h1, h2, h3⟩
  · exact absurd rfl h0
  · simp [AM.deep, h1, mapO_same xs hd]
theorem Nl.nn (n : Nl h v xs lo hi) (h0 : xs ≠ []) : v ≠ .nils := by
  rcases n with ⟨rfl, rfl⟩ | ⟨R, rfl, h1, h2, h3⟩
  · exact absurd rfl h0
  · simp
theorem Nl.sl (n : Nl h v xs lo hi) (h0 : v ≠ .nils) : ∃ R, v = .sl R 1 0 xs.length xs.length ∧ h R = some (.cells xs) ∧ lo ≤ R ∧ R < hi := by
  rcases n with ⟨rfl, rfl⟩ | h
  · exact absurd rfl h0
  · exact h
theorem Nl.app {nx by' : Nat} (n : Nl h v xs lo hi) (hh : hi ≤ nx) (hl : lo ≤ nx) (hr : room (xs.length + 1) by' = true) (y : AV) :
    ∃ v' h' nx', appT 1 by' ⟨h, nx⟩ v (some (1, [y])) = some (v', ⟨h', nx'⟩) ∧ Nl h' v' (xs ++ [y]) lo nx' ∧ nx ≤ nx' ∧ nx' ≤ nx + 1 ∧ (∀ z, objId v' = some z → objId v = some z ∨ z = nx) ∧ (∀ z, objId v' ≠ some z → h' z = h z) ∧ v' ≠ .nils := by
  rcases n with ⟨rfl, rfl⟩ | ⟨R, rfl, h1, h2, h3⟩
  · refine ⟨.sl nx 1 0 1 1, upd h nx (some (.cells [y])), nx + 1, ?_, .inr ⟨nx, rfl, by simp, hl, by omega⟩, by omega, by omega, fun z e => .inr (by simp [objId] at e; omega), fun z e => updNe (fun q => e (by rw [q]; rfl)), by simp⟩
    simp at hr
    simp [Mem.new, hr]
  · refine ⟨.sl R 1 0 (xs.length + 1) (xs.length + 1), upd h R (some (.cells (xs ++ [y]))), nx, ?_, .inr ⟨R, by simp, by simp, h2, by omega⟩, by omega, by omega, fun z e => .inl e, fun z e => updNe (fun q => e (by rw [q]; rfl)), by simp⟩
    simp at hr
    simp [h1, hr.1, hr.2]
end
end Go.Proofs.Ythnpflkpjimkfaa

/-
  THE SMALLEST FORM: the program writes its rows. Conditions: none.
-/
namespace Go.Proofs.Ythnpflkpjimkfaa
open Go.AM
open Go.Proofs.Try (prog)
set_option linter.all false
set_option maxRecDepth 100000
set_option maxHeartbeats 8000000
def rowV (al : Nat → Nat → Bool) (rows : List (List Int)) (st : List Nat) (q c : Nat) : List AV := (List.range c).map fun a => .int .i64 (idxA al st (nx rows q a) : Nat)
theorem numS_nd {al : Nat → Nat → Bool} {s : Nat} {st : List Nat} (hr : al s s = true) (h : st.Nodup) : (numS al s st).Nodup := by
  rw [numS]
  split
  · exact h
  · rename_i c
    rw [List.nodup_append]
    refine ⟨h, by simp, ?_⟩
    intro a ha b hb
    simp at hb
    subst hb
    intro e
    subst e
    exact c (List.any_eq_true.2 ⟨a, ha, hr⟩)
theorem numS_all {al : Nat → Nat → Bool} {s n : Nat} {st : List Nat} (hs : s < n) (h : ∀ x ∈ st, x < n) : ∀ x ∈ numS al s st, x < n := by
  rw [numS]
  split
  · exact h
  · intro x hx
    rcases List.mem_append.1 hx with hx | hx
    · exact h x hx
    · simp at hx; omega
theorem numS_any {al : Nat → Nat → Bool} {s : Nat} {st : List Nat} (hr : al s s = true) : (numS al s st).any (al s) = true := by
  rw [numS]
  split
  · assumption
  · simp [hr]
theorem addsN_succ (al : Nat → Nat → Bool) (nxt : Nat → Nat → Nat) (q c a : Nat) (P : List Nat) : addsN al nxt q (c + 1) a P = addsN al nxt q c (a + 1) (numS al (nxt q a) P) := by rw [addsN, List.range'_succ, List.foldl_cons, addsN]
theorem rowV_pre {al : Nat → Nat → Bool} {rows : List (List Int)} {st : List Nat} {q c : Nat} (h : ∀ a, a < c → st.any (al (nx rows q a)) = true) (l : List Nat) : rowV al rows (st ++ l) q c = rowV al rows st q c := by
  simp only [rowV]
  refine List.map_congr_left fun a ha => ?_
  rw [idxA_app (h a (by simpa using ha))]
noncomputable def K12 : List Item := [.code brand_smallest.r43, .code .ret]
noncomputable def K14 : List Item := .code brand_smallest.r42 :: .inBlock 13 :: .code brand_smallest.r35 :: .inLoop brand_smallest.l12 :: .inBlock 12 :: K12
theorem sm_r {nv gv : AV} {ps : List AV} {rows : List (List Int)} {good : List Bool} {k : Nat} (hn : IsRows nv ps rows) (v : VB rows good k) {al : Nat → Nat → Bool} {D : MB} (hDl : D.length = rows.length) (hD : ∀ s t, s < rows.length → t < rows.length → mth D s t = !al s t) (hr : ∀ s, s < rows.length → al s s = true)
    {x2 x11 x14 : AV} {d : Nat} {ids : List Nat} {b S q lo : Nat} (hq : q < rows.length) (hdlo : d < lo) (hidlo : ∀ y ∈ ids, y < lo) (hb : b < lo) (hS : S < lo) (hbd : b ≠ d ∧ b ∉ ids) (hSd : S ≠ d ∧ S ∉ ids) {r : Res} :
    ∀ (c a : Nat) (h : Nat → Option AObj) (nx0 : Nat) (st : List Nat) (w : AV), a + c = k → Bt h d ids D rows.length 0 → Sx h b S st → st.Nodup → (∀ x ∈ st, x < rows.length) → (∀ a', a' < a → st.any (al (nx rows q a')) = true) → Nl h w (rowV al rows st q a) lo nx0 → lo ≤ nx0 → (0 < a → w ≠ .nils) →
    (∀ h' nx' w', Bt h' d ids D rows.length 0 → Sx h' b S (addsN al (nx rows) q c a st) → (addsN al (nx rows) q c a st).Nodup → (∀ x ∈ addsN al (nx rows) q c a st, x < rows.length) → (∀ a', a' < k → (addsN al (nx rows) q c a st).any (al (nx rows q a')) = true) → Nl h' w' (rowV al rows (addsN al (nx rows) q c a st) q k) lo nx' → nx0 ≤ nx' → w' ≠ .nils → (∀ y, y < lo → y ≠ b → y ≠ S → h' y = h y) →
      brand_smallest.L14 (.fptr [nv, gv]) x2 x11 (.ptr b 0 1) (.fn 80 [] [.ptr b 0 1, .sptr [.sl d 1 0 rows.length rows.length]]) x14 w' (pth ps q) (.int .i64 k) (.int .i64 k) ⟨h', nx'⟩ K14 = some r) →
    brand_smallest.L14 (.fptr [nv, gv]) x2 x11 (.ptr b 0 1) (.fn 80 [] [.ptr b 0 1, .sptr [.sl d 1 0 rows.length rows.length]]) x14 w (pth ps q) (.int .i64 k) (.int .i64 a) ⟨h, nx0⟩ K14 = some r := by
  intro c
  have n6 := v.n6
  have k3 := v.k3
  induction c with
  | zero =>
    intro a h nx0 st w h1 B X hnd hst hany hw hlo hwn hk
    have e : a = k := by omega
    subst e
    exact hk h nx0 w B X hnd hst hany hw (Nat.le_refl _) (hwn (by have := v.k1; omega)) (fun _ _ _ _ => rfl)
  | succ c ih =>
    intro a h nx0 st w h1 B X hnd hst hany hw hlo hwn hk
    have ha : a < k := by omega
    have hwa : IntKind.wrap .i64 ((a : Int) + 1) = (a : Int) + 1 := wrap_id (by omega) (by omega)
    obtain ⟨c1, c2⟩ := nx_lt v hq ha
    have b1 := v.rl q hq
    have iw1 := hn.row q hq
    have d1 := iw1.idx (i := a) (by omega) .i64
    have e1 := ints_head (l := cth rows q) (i := a) (by omega)
    rw [c2] at e1
    have f6 := few6 n6 hnd hst
    obtain ⟨h2, q1, q2, q3⟩ := num_spec B hDl hD (hr _ c1) c1 X hst (by omega) nx0
    have hnd' := numS_nd (hr _ c1) hnd
    have hst' := numS_all (al := al) c1 hst
    obtain ⟨l, hl⟩ := numS_pre (al := al) (nx rows q a) st
    have B2 : Bt h2 d ids D rows.length 0 := B.fr (q3 d hbd.1.symm hSd.1.symm) (fun y hy => q3 y (fun e => hbd.2 (e ▸ hy)) (fun e => hSd.2 (e ▸ hy)))
    have hw2 : Nl h2 w (rowV al rows (numS al (nx rows q a) st) q a) lo nx0 := by
      rw [hl, rowV_pre hany]
      exact hw.fr (fun y y1 y2 _ => q3 y (by omega) (by omega)) (Nat.le_refl _)
    have hlen : (rowV al rows (numS al (nx rows q a) st) q a).length = a := by simp [rowV]
    obtain ⟨w', h3, nx', g1, g2, g3, g4, g5, g6, g7⟩ := hw2.app (by' := 8) (Nat.le_refl _) hlo (by rw [hlen]; simp; omega) (.int .i64 (idxA al (numS al (nx rows q a) st) (nx rows q a) : Nat))
    have erow : rowV al rows (numS al (nx rows q a) st) q a ++ [.int .i64 (idxA al (numS al (nx rows q a) st) (nx rows q a) : Nat)] = rowV al rows (numS al (nx rows q a) st) q (a + 1) := by simp [rowV, List.range_succ]
    rw [erow] at g2
    have g6' : ∀ y, y < lo → h3 y = h2 y := fun y hy => g6 y (fun e => by
      rcases g5 y e with e | e
      · have := hw2.oid e; omega
      · omega)
    rw [addsN_succ] at hk
    have st2 := ih (a + 1) h3 nx' (numS al (nx rows q a) st) w' (by omega) (B2.fr (g6 d (fun e => by
        rcases g5 d e with e | e
        · have := hw2.oid e; have := hdlo; omega
        · have := hdlo; omega)) (fun y hy => g6' y (hidlo y hy))) ⟨by rw [g6' b hb]; exact q2.hb, by rw [g6' S hS]; exact q2.hs, q2.ne⟩ hnd' hst' (fun a' ha' => by
        by_cases e : a' = a
        · subst e; exact numS_any (hr _ c1)
        · rw [hl]; exact any_app (hany a' (by omega))) g2 (by omega) (fun _ => g7) (fun h' nx'' w'' f1 f2 f3 f4 f5 f6 f7 f8 f9 => hk h' nx'' w'' f1 f2 f3 f4 f5 f6 (by omega) f8 (fun y y1 y2 y3 => by rw [f9 y y1 y2 y3, g6' y y1, q3 y y2 y3]))
    simp only [Int.natCast_add, Int.cast_ofNat_Int] at st2
    rw [brand_smallest.L14_eq]
    simp [ha, d1, e1, q1, hw2.one, g1, hwa, st2]
    done
end Go.Proofs.Ythnpflkpjimkfaa

/-
  THE SMALLEST FORM: the program writes it. Conditions: none.
-/
namespace Go.Proofs.Ythnpflkpjimkfaa
open Go.AM
open Go.Proofs.Try (prog)
set_option linter.all false
set_option maxRecDepth 100000
set_option maxHeartbeats 8000000
def rowF (al : Nat → Nat → Bool) (rows : List (List Int)) (k : Nat) (st : List Nat) (q : Nat) : AV := .fsl false k (rowV al rows st q k)
def outR (al : Nat → Nat → Bool) (rows : List (List Int)) (k : Nat) (st : List Nat) (kk : Nat) : List AV := (st.take kk).map (rowF al rows k st)
def outG (good : List Bool) (st : List Nat) (kk : Nat) : List AV := (st.take kk).map fun q => .bool (bnth good q)
structure Ox (h : Nat → Option AObj) (o z0 : Nat) (a g : AV) (R G : List AV) (lo hi : Nat) : Prop where
  o : h o = some (.cells [a, g])
  z : h z0 = some (.cells [.nils, .nils])
  na : Nl h a R lo hi
  ng : Nl h g G lo hi
  dj : ∀ y, objId a = some y → objId g ≠ some y
def resV (al : Nat → Nat → Bool) (rows : List (List Int)) (good : List Bool) (k : Nat) (st : List Nat) : AV := .agg [.fsl false st.length (st.map (rowF al rows k st)), .fsl false st.length (st.map fun q => .bool (bnth good q))]
def ap (x y : Option Nat) : Bool := match x, y with
  | some a, some c => !(a == c)
  | _, _ => true
theorem ap_eq (s : St) (p q : Nat) : apart2 s p q = ap (objId (s.get p)) (objId (s.get q)) := by
  unfold apart2 ap
  cases objId (s.get p) <;> cases objId (s.get q) <;> rfl
theorem ap_lt {x : Option Nat} {z lo : Nat} (h : ∀ y, x = some y → lo ≤ y) (hz : z < lo) : ap x (some z) = true := by
  cases x with
  | none => rfl
  | some y =>
    have : (y == z) = false := beq_eq_false_iff_ne.2 (by have := h y rfl; omega)
    simp [ap, this]
theorem frz_142_146 (s : St) : frz1 s 3142146 = bif ap (objId (s.get 142)) (objId (s.get 146)) then some s else none := by rw [← ap_eq]; rfl
theorem frz_144 (s : St) : frz1 s 2000144 = bif nsl (s.get 144) then some s else none := rfl
theorem frz_142_12 (s : St) : frz1 s 3142012 = bif ap (objId (s.get 142)) (objId (s.get 12)) then some s else none := by rw [← ap_eq]; rfl
theorem frz_142_152 (s : St) : frz1 s 3142152 = bif ap (objId (s.get 142)) (objId (s.get 152)) then some s else none := by rw [← ap_eq]; rfl
@[simp] theorem objId_ptr (id off top : Nat) : objId (.ptr id off top) = some id := rfl
@[simp] theorem objId_sl (id es off n top : Nat) : objId (.sl id es off n top) = some id := rfl
theorem rowV_closed (al : Nat → Nat → Bool) (rows : List (List Int)) (st : List Nat) (q c : Nat) : closedL (rowV al rows st q c) = true := by
  rw [rowV]
  generalize List.range c = l
  induction l with
  | nil => rfl
  | cons a l ih => simp [closedL, AV.closed, ih]
theorem sm_o {nv gv : AV} {ps : List AV} {rows : List (List Int)} {good : List Bool} {k : Nat} (hn : IsRows nv ps rows) (hg : IsB gv good) (v : VB rows good k) {al : Nat → Nat → Bool} {D : MB} (hDl : D.length = rows.length) (hD : ∀ s t, s < rows.length → t < rows.length → mth D s t = !al s t) (hr : ∀ s, s < rows.length → al s s = true)
    {d o z0 : Nat} {ids : List Nat} {b S lo : Nat} (hdlo : d < lo) (hidlo : ∀ y ∈ ids, y < lo) (hb : b < lo) (hS : S < lo) (ho : o < lo) (hz : z0 < lo) (hbd : b ≠ d ∧ b ∉ ids) (hSd : S ≠ d ∧ S ∉ ids) (hod : o ≠ d ∧ o ∉ ids) (hzd : z0 ≠ d ∧ z0 ∉ ids) (hob : o ≠ b ∧ o ≠ S) (hzb : z0 ≠ b ∧ z0 ≠ S) (hoz : o ≠ z0) :
    ∀ (f kk : Nat) (h : Nat → Option AObj) (nx0 : Nat) (st : List Nat) (a g : AV), Bt h d ids D rows.length 0 → Sx h b S st → st.Nodup → (∀ x ∈ st, x < rows.length) → kk ≤ st.length → rows.length < f + kk → (∀ s ∈ st.take kk, ∀ a, a < k → st.any (al (nx rows s a)) = true) → lo ≤ nx0 → Ox h o z0 a g (outR al rows k st kk) (outG good st kk) lo nx0 → 0 < st.length →
    brand_smallest.L12 (.fptr [nv, gv]) (.ptr z0 0 2) (.ptr o 0 2) (.ptr b 0 1) (.fn 80 [] [.ptr b 0 1, .sptr [.sl d 1 0 rows.length rows.length]]) (.int .i64 kk) ⟨h, nx0⟩ K12 = some (resV al rows good k (bldN al (nx rows) k f kk st), Mem.empty) := by
  intro f
  have n6 := v.n6
  have k3 := v.k3
  induction f with
  | zero =>
    intro kk h nx0 st a g B X hnd hst hkk hf hcl hlo O hpos
    have := nodup_sub hnd (L := List.range rows.length) fun x hx => List.mem_range.2 (hst x hx)
    simp at this
    omega
  | succ f ih =>
    intro kk h nx0 st a g B X hnd hst hkk hf hcl hlo O hpos
    have f6 := few6 n6 hnd hst
    by_cases c : kk < st.length
    · have hx := List.getElem?_eq_getElem c
      generalize st[kk] = q at hx
      have hq : q < rows.length := hst q (List.mem_of_getElem? hx)
      rw [bldN, hx]
      simp only []
      have hl2 : ∀ n' : Nat, loadA false 1 ⟨h, n'⟩ (.ptr S kk st.length) = some (.int .i64 (q : Int)) := fun n' => by simp [X.hs, hx, encS]
      have iw1 := hn.row q hq
      have b1 := v.rl q hq
      rw [brand_smallest.L12_eq]
      simp [X.hb, c, hl2, hn.idx hq, hn.head hq, iw1.len, b1]
      have st2 := sm_r (gv := gv) (x2 := .ptr z0 0 2) (x11 := .ptr o 0 2) (x14 := .int .i64 kk) hn v hDl hD hr (d := d) (ids := ids) (b := b) (S := S) (q := q) (lo := nx0 + 10) hq (by omega) (fun y hy => by have := hidlo y hy; omega) (by omega) (by omega) hbd hSd (r := (resV al rows good k (bldN al (nx rows) k f (kk + 1) (addsN al (nx rows) q k 0 st)), Mem.empty)) k 0 h (nx0 + 10) st .nils (by omega) B X hnd hst (by omega) (.inl ⟨rfl, rfl⟩) (by omega) (by omega) (fun h' nx' w' B' X' hnd' hst' hany' hw' hnx' hwn' hfr => by
        obtain ⟨R, rfl, w1, w2, w3⟩ := hw'.sl hwn'
        obtain ⟨l, hl⟩ := addsN_pre (al := al) (nxt := nx rows) q k 0 st
        generalize est : addsN al (nx rows) q k 0 st = st' at *
        have hkk' : kk < st'.length := by rw [hl]; simp; omega
        have hx' : st'[kk]? = some q := by rw [hl, List.getElem?_append_left c]; exact hx
        have htk : st'.take kk = st.take kk := by rw [hl, List.take_append_of_le_length (by omega)]
        have htk1 : st'.take (kk + 1) = st.take kk ++ [q] := by rw [List.take_add_one, hx', htk]; rfl
        have f6' := few6 n6 hnd' hst'
        have eR : outR al rows k st kk ++ [rowF al rows k st' q] = outR al rows k st' (kk + 1) := by
          rw [outR, outR, htk1, List.map_append]
          congr 1
          refine List.map_congr_left fun s hs => ?_
          rw [rowF, rowF, hl, rowV_pre (hcl s hs)]
        have eG : outG good st kk ++ [.bool (bnth good q)] = outG good st' (kk + 1) := by
          rw [outG, outG, htk1, List.map_append]; rfl
        have oa := fun y e => (O.na.oid (y := y) e)
        have og := fun y e => (O.ng.oid (y := y) e)
        have rl : (rowV al rows st' q k).length = k := by simp [rowV]
        have na1 : Nl (upd h' R none) a (outR al rows k st kk) lo nx0 := O.na.fr (fun y y1 y2 _ => by rw [updNe (by omega), hfr y (by omega) (by omega) (by omega)]) (Nat.le_refl _)
        have lR : (outR al rows k st kk).length ≤ 6 := by simp [outR]; omega
        have lG : (outG good st kk).length ≤ 6 := by simp [outG]; omega
        obtain ⟨v1, h2, n2, g1, g2, g3, g4, g5, g6, g7⟩ := na1.app (nx := nx' + 4) (by' := 24) (by omega) (by omega) (by simp; omega) (rowF al rows k st' q)
        have hv1 : ∀ y, objId v1 = some y → lo ≤ y ∧ (y < nx0 ∨ y = nx' + 4) := fun y e => by
          rcases g5 y e with q | q
          · have := oa y q; omega
          · omega
        have ng1 : Nl h2 g (outG good st kk) lo nx0 := O.ng.fr (fun y y1 y2 ye => by
          rw [g6 y (fun e => by
            rcases g5 y e with q | q
            · exact O.dj y q ye
            · omega), updNe (by omega), hfr y (by omega) (by omega) (by omega)]) (Nat.le_refl _)
        obtain ⟨v2, h3, n3, u1, u2, u3, u4, u5, u6, u7⟩ := ng1.app (nx := nx' + 16) (by' := 1) (by omega) (by omega) (by simp; omega) (.bool (bnth good q))
        have hv2 : ∀ y, objId v2 = some y → lo ≤ y ∧ (objId g = some y ∨ y = nx' + 16) := fun y e => by
          rcases u5 y e with q | q
          · have := og y q; exact ⟨this.1, .inl q⟩
          · exact ⟨by omega, .inr q⟩
        have low : ∀ y, y < lo → h3 y = h' y := fun y hy => by
          rw [u6 y (fun e => by have := hv2 y e; omega), g6 y (fun e => by have := hv1 y e; omega), updNe (by omega)]
        have lo2 : ∀ y, y < lo → h2 y = h' y := fun y hy => by
          rw [g6 y (fun e => by have := hv1 y e; omega), updNe (by omega)]
        have ho' : h' o = some (.cells [a, g]) := by rw [hfr o (by omega) hob.1 hob.2]; exact O.o
        have ho1 : (upd h' R none) o = some (.cells [a, g]) := by rw [updNe (by omega)]; exact ho'
        have ho2 : h2 o = some (.cells [a, g]) := by rw [lo2 o ho]; exact ho'
        have ho3 : h3 o = some (.cells [a, g]) := by rw [low o ho]; exact ho'
        have hb2 : h2 b = some (.cells [.sl S 1 0 st'.length st'.length]) := by rw [lo2 b hb]; exact X'.hb
        have hS2 : h2 S = some (.cells (st'.map encS)) := by rw [lo2 S hS]; exact X'.hs
        have a1 := ap_lt (z := o) (fun y e => (oa y e).1) ho
        have a2 := ap_lt (z := b) (fun y e => (oa y e).1) hb
        have a3 := ap_lt (z := S) (fun y e => (oa y e).1) hS
        have bq := bls_head (bs := good) (i := q) (by rw [v.gl]; exact hq)
        have hwk : IntKind.wrap .i64 ((kk : Int) + 1) = (kk : Int) + 1 := wrap_id (by omega) (by omega)
        have fin4 : ∀ y, y < lo → y ≠ o → (upd h3 o (some (.cells [v1, v2]))) y = h' y := fun y y1 y2 => by rw [updNe y2, low y y1]
        have st3 := ih (kk + 1) (upd h3 o (some (.cells [v1, v2]))) (nx' + 21) st' v1 v2
          (B'.fr (fin4 d hdlo hod.1.symm) (fun y hy => fin4 y (hidlo y hy) (fun e => hod.2 (e ▸ hy))))
          ⟨by rw [fin4 b hb hob.1.symm]; exact X'.hb, by rw [fin4 S hS hob.2.symm]; exact X'.hs, X'.ne⟩ hnd' hst' (by omega) (by omega)
          (by
            rw [htk1]
            intro s hs a ha
            rcases List.mem_append.1 hs with hs | hs
            · rw [hl]; exact any_app (hcl s hs a ha)
            · simp at hs; subst hs; exact hany' a ha)
          (by omega)
          ⟨by simp, by rw [fin4 z0 hz hoz.symm, hfr z0 (by omega) hzb.1 hzb.2]; exact O.z,
            by
              rw [← eR]
              exact g2.fr (fun y y1 y2 ye => by
                rw [updNe (by omega), u6 y (fun e => by
                  rcases (hv2 y e).2 with q | q
                  · rcases g5 y ye with w | w
                    · exact O.dj y w q
                    · have := og y q; omega
                  · have := (hv1 y ye).2; omega)]) (by omega),
            by
              rw [← eG]
              exact u2.fr (fun y y1 y2 ye => by rw [updNe (by omega)]) (by omega),
            fun y e1 e2 => by
              rcases (hv2 y e2).2 with q | q
              · rcases g5 y e1 with w | w
                · exact O.dj y w q
                · have := og y q; omega
              · have := (hv1 y e1).2; omega⟩ (by omega)
        simp only [Int.natCast_add, Int.cast_ofNat_Int] at st3
        have hoR : (o == R) = false := beq_eq_false_iff_ne.2 (by omega)
        have rtk : (rowV al rows st' q k).take k = rowV al rows st' q k := List.take_of_length_le (by omega)
        have hxe := (List.getElem?_eq_some_iff.1 hx').2
        have rfo : (rowF al rows k st' q).one = true := rfl
        simp only [rowF] at g1 rfo
        rw [brand_smallest.L14_eq]
        simp [K14, w1, rowV_closed, rl, rtk, hoR, ho', ho1, ho2, ho3, g1, O.na.one, O.ng.one, hb2, hS2, hkk', hxe, u1, (show v1.one = true from g2.one), (show v2.one = true from u2.one), frz_142_146, frz_144, frz_142_12, frz_142_152, nsl, a1, a2, a3, hwk, st3, encS, hg.idx (i := q) (by rw [v.gl]; exact hq), bq, frzL]
        done)
      simp only [Int.ofNat_zero, Int.cast_ofNat_Int, K14] at st2
      exact st2
    · have ekk : kk = st.length := by omega
      subst ekk
      have hx : st[st.length]? = none := List.getElem?_eq_none (by omega)
      rw [bldN, hx]
      simp only []
      rw [brand_smallest.L12_eq]
      simp [X.hb, O.o, O.z, O.na.one, O.ng.one, K12]
      have e1 : st.take st.length = st := List.take_length
      have na : Nl (upd h z0 (some (AObj.cells [a, g]))) a (outR al rows k st st.length) lo nx0 := O.na.fr (fun y y1 _ _ => updNe (by omega)) (Nat.le_refl _)
      have ng : Nl (upd h z0 (some (AObj.cells [a, g]))) g (outG good st st.length) lo nx0 := O.ng.fr (fun y y1 _ _ => updNe (by omega)) (Nat.le_refl _)
      have hne : st ≠ [] := by intro e; rw [e] at hpos; simp at hpos
      have da := na.deep 4 (fun x hx => by
        simp only [outR, List.mem_map] at hx
        obtain ⟨q, _, rfl⟩ := hx
        simp [AM.deep, rowF, rowV_closed]) (na.nn (by simp [outR, hne]))
      have dg := ng.deep 4 (fun x hx => by
        simp only [outG, List.mem_map] at hx
        obtain ⟨q, _, rfl⟩ := hx
        simp [AM.deep]) (ng.nn (by simp [outG, hne]))
      simp [da, dg, resV, outR, outG]
      done
end Go.Proofs.Ythnpflkpjimkfaa

/-
  PLANS: the brand that is made. Conditions: none.
-/
namespace Go.Proofs.Ythnpflkpjimkfaa
open Go.AM
open Go.Proofs.Try (prog)
set_option linter.all false
set_option maxRecDepth 100000
set_option maxHeartbeats 8000000
theorem IsBy.closed {v : AV} {l : List Nat} (h : IsBy v l) : v.closed = true := by rcases h with ⟨rfl, _⟩ | ⟨_, rfl⟩ <;> rfl
theorem IsBy.one {v : AV} {l : List Nat} (h : IsBy v l) : v.one = true := by rcases h with ⟨rfl, _⟩ | ⟨_, rfl⟩ <;> rfl
theorem IsBy.len {v : AV} {l : List Nat} (h : IsBy v l) : lenSl v = some (.int .i64 l.length) := by rcases h with ⟨rfl, rfl⟩ | ⟨_, rfl⟩ <;> rfl
theorem IsBy.idx {v : AV} {l : List Nat} (h : IsBy v l) {i : Nat} (hi : i < l.length) (k : IntKind) : idxSl 1 v (.int k (i : Int)) = some (.fptr ((bytN l).drop i)) := by
  rcases h with ⟨rfl, rfl⟩ | ⟨_, rfl⟩
  · simp at hi
  · simp [hi]
theorem byt_head {l : List Nat} {i : Nat} (h : i < l.length) : ((bytN l).drop i).head? = some (.int .u8 (l.getD i 0 : Nat)) := by
  rw [List.head?_drop]
  simp [bytN, h, List.getD_eq_getElem?_getD]
def entPl (l : List Nat) (n k q s a : Nat) : Nat := let w := if s * k + a < l.length then l.getD (s * k + a) 0 % n else 0; if 128 ≤ q then max w s else w
theorem entP_lt {l : List Nat} {n k q s a : Nat} (hs : s < n) : entPl l n k q s a < n := by
  unfold entPl
  have h1 : (if s * k + a < l.length then l.getD (s * k + a) 0 % n else 0) < n := by
    split
    · exact Nat.mod_lt _ (by omega)
    · omega
  simp only []
  split
  · omega
  · exact h1
def rowP (l : List Nat) (n k q s c : Nat) : List Int := (List.range c).map fun a => ((entPl l n k q s a : Nat) : Int)
def rowsP (l : List Nat) (n k q c : Nat) : List (List Int) := (List.range c).map fun s => rowP l n k q s k
def goodP (q c : Nat) : List Bool := (List.range c).map fun s => q.testBit s
noncomputable def KP0 : List Item := [.code l07_Plan_made.r18, .code .ret]
noncomputable def KP2 : List Item := .code l07_Plan_made.r17 :: .inBlock 1 :: .code l07_Plan_made.r5 :: .inLoop l07_Plan_made.l0 :: .inBlock 0 :: KP0
theorem pl_in {a0 a1 : Nat} {nv : AV} {l : List Nat} (hb : IsBy nv l) (hlb : ∀ x ∈ l, x < 256) {q n k s : Nat} (hq : q < 256) (hs : s < n) (n6 : n ≤ 6) (k3 : k ≤ 3) {x2 x5 : AV} {R : Nat} {r : Option Res} :
    ∀ (c a : Nat) (h : Nat → Option AObj) (nx0 : Nat), a + c = k → h R = some (.cells (ints (rowP l n k q s a))) → R < nx0 →
    (∀ h' nx', h' R = some (.cells (ints (rowP l n k q s k))) → nx0 ≤ nx' → (∀ y, y ≠ R → h' y = h y) →
      l07_Plan_made.L2 (.fptr [.int .u8 (a0 : Nat), .int .u8 (a1 : Nat), nv, .int .u8 (q : Nat)]) x2 (.int .i64 n) (.int .i64 k) x5 (.int .i64 s) (.sl R 1 0 k k) (.int .i64 k) ⟨h', nx'⟩ KP2 = r) →
    l07_Plan_made.L2 (.fptr [.int .u8 (a0 : Nat), .int .u8 (a1 : Nat), nv, .int .u8 (q : Nat)]) x2 (.int .i64 n) (.int .i64 k) x5 (.int .i64 s) (.sl R 1 0 a a) (.int .i64 a) ⟨h, nx0⟩ KP2 = r := by
  intro c
  induction c with
  | zero =>
    intro a h nx0 h1 h0 hR hk
    have e : a = k := by omega
    subst e
    exact hk h nx0 h0 (Nat.le_refl _) (fun _ _ => rfl)
  | succ c ih =>
    intro a h nx0 h1 h0 hR hk
    have ha : a < k := by omega
    have hwa : IntKind.wrap .i64 ((a : Int) + 1) = (a : Int) + 1 := wrap_id (by omega) (by omega)
    have hsk : s * k ≤ 18 := by
      have := Nat.mul_le_mul (show s ≤ 6 by omega) k3
      omega
    have hw1 : IntKind.wrap .i64 ((s : Int) * k) = ((s * k : Nat) : Int) := by rw [← Int.natCast_mul]; exact wrap_id (by omega) (by omega)
    have hw2 : IntKind.wrap .i64 (((s * k : Nat) : Int) + a) = ((s * k + a : Nat) : Int) := by rw [← Int.natCast_add]; exact wrap_id (by omega) (by omega)
    have hrl : (rowP l n k q s a).length = a := by simp [rowP]
    have hrl1 : (rowP l n k q s (a + 1)).length = a + 1 := by simp [rowP]
    have hrow : ints (rowP l n k q s a) ++ [.int .i64 ((entPl l n k q s a : Nat) : Int)] = ints (rowP l n k q s (a + 1)) := by simp [rowP, List.range_succ, ints]
    have hent := entP_lt (l := l) (k := k) (q := q) (a := a) hs
    have st := ih (a + 1) (upd h R (some (.cells (ints (rowP l n k q s (a + 1)))))) nx0 (by omega) (by simp) hR (fun h' nx' f1 f2 f3 => hk h' nx' f1 f2 (fun y hy => by rw [f3 y hy, updNe hy]))
    simp only [Int.natCast_add, Int.cast_ofNat_Int] at st
    have hemax : ∀ w : Nat, max (w : Int) (s : Int) = ((max w s : Nat) : Int) := fun w => by omega
    have hn0 : ¬ n = 0 := by omega
    by_cases c1 : s * k + a < l.length
    · have hb256 : l.getD (s * k + a) 0 < 256 := by
        have : l.getD (s * k + a) 0 ∈ l := by rw [List.getD_eq_getElem?_getD, List.getElem?_eq_getElem c1]; exact List.getElem_mem c1
        exact hlb _ this
      have hcv := wrapN (x := l.getD (s * k + a) 0) (by omega)
      have hmod : ((l.getD (s * k + a) 0 : Nat) : Int).tmod (n : Int) = ((l.getD (s * k + a) 0 % n : Nat) : Int) := by
        rw [Int.tmod_eq_emod_of_nonneg (by omega)]; simp
      have hhd := byt_head c1
      have hix := hb.idx c1 .i64
      have hlt : ((s * k + a : Nat) : Int) < (l.length : Int) := by omega
      by_cases c2 : 128 ≤ q
      · have he : entPl l n k q s a = max (l.getD (s * k + a) 0 % n) s := by simp only [entPl, if_pos c1, if_pos c2]
        rw [he] at hrow
        have c2' : (128 : Int) ≤ (q : Int) := by omega
        generalize l.getD (s * k + a) 0 = z at *
        generalize s * k + a = at' at *
        generalize s * k = sk at *
        rw [l07_Plan_made.L2_eq]
        simp [ha, hw1, hw2, hb.len, c1, hix, hhd, hcv, hn0, hmod, c2', hemax, h0, hrl, hrow, hrl1, hwa, st, show a ≤ 4611686018427387903 by omega, show (a + 1) * 8 ≤ 70368744177664 by omega, -Int.natCast_add, -Int.natCast_mul, -Int.natCast_emod]
        done
      · have he : entPl l n k q s a = l.getD (s * k + a) 0 % n := by simp only [entPl, if_pos c1, if_neg c2]
        rw [he] at hrow
        have c2' : ¬ (128 : Int) ≤ (q : Int) := by omega
        generalize l.getD (s * k + a) 0 = z at *
        generalize s * k + a = at' at *
        generalize s * k = sk at *
        rw [l07_Plan_made.L2_eq]
        simp [ha, hw1, hw2, hb.len, c1, hix, hhd, hcv, hn0, hmod, c2', h0, hrl, hrow, hrl1, hwa, st, show a ≤ 4611686018427387903 by omega, show (a + 1) * 8 ≤ 70368744177664 by omega, -Int.natCast_add, -Int.natCast_mul, -Int.natCast_emod]
        done
    · have hge : ¬ ((s * k + a : Nat) : Int) < (l.length : Int) := by omega
      by_cases c2 : 128 ≤ q
      · have he : entPl l n k q s a = s := by simp only [entPl, if_neg c1, if_pos c2]; omega
        rw [he] at hrow
        have c2' : (128 : Int) ≤ (q : Int) := by omega
        have hm0 : max (0 : Int) (s : Int) = (s : Int) := by omega
        generalize s * k + a = at' at *
        generalize s * k = sk at *
        rw [l07_Plan_made.L2_eq]
        simp [ha, hw1, hw2, hb.len, c1, c2', hm0, h0, hrl, hrow, hrl1, hwa, st, show a ≤ 4611686018427387903 by omega, show (a + 1) * 8 ≤ 70368744177664 by omega, -Int.natCast_add, -Int.natCast_mul]
        done
      · have he : entPl l n k q s a = 0 := by simp only [entPl, if_neg c1, if_neg c2]
        rw [he] at hrow
        have c2' : ¬ (128 : Int) ≤ (q : Int) := by omega
        simp only [Int.ofNat_zero, Int.cast_ofNat_Int] at hrow
        generalize s * k + a = at' at *
        generalize s * k = sk at *
        rw [l07_Plan_made.L2_eq]
        simp [ha, hw1, hw2, hb.len, c1, c2', h0, hrl, hrow, hrl1, hwa, st, show a ≤ 4611686018427387903 by omega, show (a + 1) * 8 ≤ 70368744177664 by omega, -Int.natCast_add, -Int.natCast_mul]
        done
theorem frz_62_66 (s : St) : frz1 s 3062066 = bif ap (objId (s.get 62)) (objId (s.get 66)) then some s else none := by rw [← ap_eq]; rfl
theorem frz_64 (s : St) : frz1 s 2000064 = bif nsl (s.get 64) then some s else none := rfl
theorem bit8 {q s : Nat} (hq : q < 256) (hs : s < 6) : binA prog .shr 5 (.int .u8 (q : Nat)) (.int .i64 (s : Nat)) = some (.int .u8 ((q / 2 ^ s : Nat) : Int)) := by
  have h0 : ¬ ((s : Int) < 0) := by omega
  have h1 : min (s : Int).toNat (IntKind.bits .u8) = s := by
    show min (s : Int).toNat 8 = s
    omega
  rw [binA_shr, h1]
  have e : (q : Int).fdiv (2 ^ s) = ((q / 2 ^ s : Nat) : Int) := by
    rw [Int.fdiv_eq_ediv_of_nonneg _ (Int.pow_nonneg (by omega))]
    simp
  simp [h0, e]
theorem and8 {x : Nat} (hx : x < 256) : binA prog .and 5 (.int .u8 (x : Nat)) (.int .u8 1) = some (.int .u8 (if x % 2 = 1 then 1 else 0)) := by
  have key : ∀ x : Fin 256, IntKind.wrap .u8 ((BitVec.ofInt (IntKind.bits .u8) ((x.val : Nat) : Int) &&& BitVec.ofInt (IntKind.bits .u8) 1).toNat : Int) = if x.val % 2 = 1 then 1 else 0 := by decide
  rw [binA_and]
  have := key ⟨x, hx⟩
  simp only [] at this
  rw [this]
def pslP (l : List Nat) (n k q c : Nat) : List AV := (List.range c).map fun s => .fsl false k (ints (rowP l n k q s k))
structure Ol (h : Nat → Option AObj) (o z0 : Nat) (a g : AV) (A G : List AV) (lo hi : Nat) : Prop where
  o : h o = some (.cells [a, g])
  z : h z0 = some (.cells [.nils, .nils])
  na : Nl h a A lo hi
  ng : Nl h g G lo hi
  dj : ∀ y, objId a = some y → objId g ≠ some y
theorem pl_out {a0 a1 : Nat} {nv : AV} {l : List Nat} (hb : IsBy nv l) (hlb : ∀ x ∈ l, x < 256) {q n k : Nat} (hq : q < 256) (n1 : 1 ≤ n) (n6 : n ≤ 6) (k1 : 1 ≤ k) (k3 : k ≤ 3) {o lo : Nat} (ho : o < lo) (ho0 : 0 < o) :
    ∀ (c s : Nat) (h : Nat → Option AObj) (nx0 : Nat) (a g : AV), s + c = n → lo ≤ nx0 → Ol h o 0 a g (pslP l n k q s) (bls (goodP q s)) lo nx0 →
    l07_Plan_made.L0 (.fptr [.int .u8 (a0 : Nat), .int .u8 (a1 : Nat), nv, .int .u8 (q : Nat)]) (.ptr 0 0 2) (.int .i64 n) (.int .i64 k) (.ptr o 0 2) (.int .i64 s) ⟨h, nx0⟩ KP0 = some (.agg [.fsl false n (pslP l n k q n), .fsl false n (bls (goodP q n))], Mem.empty) := by
  intro c
  induction c with
  | zero =>
    intro s h nx0 a g h1 hlo O
    have e : s = n := by omega
    subst e
    have na : Nl (upd h 0 (some (AObj.cells [a, g]))) a (pslP l s k q s) lo nx0 := O.na.fr (fun y y1 _ _ => updNe (by omega)) (Nat.le_refl _)
    have ng : Nl (upd h 0 (some (AObj.cells [a, g]))) g (bls (goodP q s)) lo nx0 := O.ng.fr (fun y y1 _ _ => updNe (by omega)) (Nat.le_refl _)
    have hne1 : pslP l s k q s ≠ [] := by intro e; have := congrArg List.length e; simp [pslP] at this; omega
    have hne2 : bls (goodP q s) ≠ [] := by intro e; have := congrArg List.length e; simp [goodP] at this; omega
    have da := na.deep 4 (fun x hx => by
      simp only [pslP, List.mem_map] at hx
      obtain ⟨q, _, rfl⟩ := hx
      rfl) (na.nn hne1)
    have dg := ng.deep 4 (fun x hx => by
      simp only [bls, List.mem_map] at hx
      obtain ⟨q, _, rfl⟩ := hx
      rfl) (ng.nn hne2)
    have l1 : (pslP l s k q s).length = s := by simp [pslP]
    have l2 : (bls (goodP q s)).length = s := by simp [goodP]
    rw [l1] at da
    rw [l2] at dg
    rw [l07_Plan_made.L0_eq]
    simp [O.o, O.z, O.na.one, O.ng.one, KP0]
    simp [da, dg]
    done
  | succ c ih =>
    intro s h nx0 a g h1 hlo O
    have hs : s < n := by omega
    have eR : pslP l n k q s ++ [.fsl false k (ints (rowP l n k q s k))] = pslP l n k q (s + 1) := by simp [pslP, List.range_succ]
    have eG : bls (goodP q s) ++ [.bool (q.testBit s)] = bls (goodP q (s + 1)) := by simp [bls, goodP, List.range_succ]
    have oa := fun y e => (O.na.oid (y := y) e)
    have og := fun y e => (O.ng.oid (y := y) e)
    have st := pl_in (a0 := a0) (a1 := a1) hb hlb (q := q) (n := n) (k := k) (s := s) hq hs n6 k3 (x2 := .ptr 0 0 2) (x5 := .ptr o 0 2) (R := nx0) (r := some (.agg [.fsl false n (pslP l n k q n), .fsl false n (bls (goodP q n))], Mem.empty)) k 0 (upd h nx0 (some (.cells []))) (nx0 + 1) (by omega) (by simp [rowP]) (by omega) (fun h' nx' w1 hnx' hfr0 => by
      have hfr : ∀ y, y ≠ nx0 → h' y = h y := fun y hy => by rw [hfr0 y hy, updNe hy]
      have rl : (rowP l n k q s k).length = k := by simp [rowP]
      have na1 : Nl (upd h' nx0 none) a (pslP l n k q s) lo nx0 := O.na.fr (fun y y1 y2 _ => by rw [updNe (by omega), hfr y (by omega)]) (Nat.le_refl _)
      have lR : (pslP l n k q s).length ≤ 6 := by simp [pslP]; omega
      have lG : (bls (goodP q s)).length ≤ 6 := by simp [goodP]; omega
      obtain ⟨v1, h2, n2, g1, g2, g3, g4, g5, g6, g7⟩ := na1.app (nx := nx' + 4) (by' := 24) (by omega) (by omega) (by simp; omega) (.fsl false k (ints (rowP l n k q s k)))
      have hv1 : ∀ y, objId v1 = some y → lo ≤ y ∧ (y < nx0 ∨ y = nx' + 4) := fun y e => by
        rcases g5 y e with q | q
        · have := oa y q; omega
        · omega
      have ng1 : Nl h2 g (bls (goodP q s)) lo nx0 := O.ng.fr (fun y y1 y2 ye => by
        rw [g6 y (fun e => by
          rcases g5 y e with q | q
          · exact O.dj y q ye
          · omega), updNe (by omega), hfr y (by omega)]) (Nat.le_refl _)
      obtain ⟨v2, h3, n3, u1, u2, u3, u4, u5, u6, u7⟩ := ng1.app (nx := nx' + 14) (by' := 1) (by omega) (by omega) (by simp only [room_dec, Bool.and_eq_true, decide_eq_true_eq]; omega) (.bool (q.testBit s))
      have hv2 : ∀ y, objId v2 = some y → lo ≤ y ∧ (objId g = some y ∨ y = nx' + 14) := fun y e => by
        rcases u5 y e with q | q
        · have := og y q; exact ⟨this.1, .inl q⟩
        · exact ⟨by omega, .inr q⟩
      have low : ∀ y, y < lo → h3 y = h y := fun y hy => by
        rw [u6 y (fun e => by have := hv2 y e; omega), g6 y (fun e => by have := hv1 y e; omega), updNe (by omega), hfr y (by omega)]
      have lo2 : ∀ y, y < lo → h2 y = h y := fun y hy => by
        rw [g6 y (fun e => by have := hv1 y e; omega), updNe (by omega), hfr y (by omega)]
      have ho' : h' o = some (.cells [a, g]) := by rw [hfr o (by omega)]; exact O.o
      have ho2 : h2 o = some (.cells [a, g]) := by rw [lo2 o ho]; exact O.o
      have ho3 : h3 o = some (.cells [a, g]) := by rw [low o ho]; exact O.o
      have a1' := ap_lt (z := o) (fun y e => (oa y e).1) ho
      have hwk : IntKind.wrap .i64 ((s : Int) + 1) = (s : Int) + 1 := wrap_id (by omega) (by omega)
      have fin4 : ∀ y, y < lo → y ≠ o → (upd h3 o (some (.cells [v1, v2]))) y = h y := fun y y1 y2 => by rw [updNe y2, low y y1]
      have st3 := ih (s + 1) (upd h3 o (some (.cells [v1, v2]))) (nx' + 19) v1 v2 (by omega) (by omega)
        ⟨by simp, by rw [fin4 0 (by omega) (by omega)]; exact O.z,
          by
            rw [← eR]
            exact g2.fr (fun y y1 y2 ye => by
              rw [updNe (by omega), u6 y (fun e => by
                rcases (hv2 y e).2 with q | q
                · rcases g5 y ye with w | w
                  · exact O.dj y w q
                  · have := og y q; omega
                · have := (hv1 y ye).2; omega)]) (by omega),
          by
            rw [← eG]
            exact u2.fr (fun y y1 y2 ye => by rw [updNe (by omega)]) (by omega),
          fun y e1 e2 => by
            rcases (hv2 y e2).2 with q | q
            · rcases g5 y e1 with w | w
              · exact O.dj y w q
              · have := og y q; omega
            · have := (hv1 y e1).2; omega⟩
      simp only [Int.natCast_add, Int.cast_ofNat_Int] at st3
      have hoR : (o == nx0) = false := beq_eq_false_iff_ne.2 (by omega)
      have rtk : (ints (rowP l n k q s k)).take k = ints (rowP l n k q s k) := List.take_of_length_le (by simp [rl])
      have b8 := bit8 (q := q) (s := s) hq (by omega)
      have hq2 : q / 2 ^ s < 256 := Nat.lt_of_le_of_lt (Nat.div_le_self _ _) hq
      have n8 := and8 hq2
      have htb : q.testBit s = decide (q / 2 ^ s % 2 = 1) := by rw [Nat.testBit_eq_decide_div_mod_eq]
      generalize q / 2 ^ s = qs at *
      have he8 : binA prog .eql 5 (.int .u8 (if qs % 2 = 1 then 1 else 0)) (.int .u8 1) = some (.bool (q.testBit s)) := by
        rw [htb]
        by_cases w : qs % 2 = 1 <;> simp [w]
      rw [l07_Plan_made.L2_eq]
      simp [KP2, w1, rl, rtk, hoR, ho', ho2, ho3, g1, O.na.one, O.ng.one, b8, n8, he8, u1, (show v1.one = true from g2.one), (show v2.one = true from u2.one), frz_62_66, frz_64, nsl, a1', hwk, st3, frzL, -binA_shr, -binA_and]
      done)
    simp only [Int.ofNat_zero, Int.cast_ofNat_Int, KP2] at st
    rw [l07_Plan_made.L0_eq]
    simp [hs]
    exact st
end Go.Proofs.Ythnpflkpjimkfaa

/-
  PLANS: the brand is valid. Conditions: none.
-/
namespace Go.Proofs.Ythnpflkpjimkfaa
open Go.AM
open Go.Proofs.Try (prog)
set_option linter.all false
set_option maxRecDepth 100000
set_option maxHeartbeats 8000000
theorem VB.to {rows : List (List Int)} {good : List Bool} {k : Nat} (v : VB rows good k) : validB rows good = true := by
  have h0 := v.rl 0 v.n1
  unfold validB
  simp only [Bool.and_eq_true, decide_eq_true_eq, List.all_eq_true]
  refine ⟨⟨v.n1, v.n6⟩, v.gl, ⟨by rw [h0]; exact v.k1, by rw [h0]; exact v.k3⟩, fun r hr => ?_⟩
  obtain ⟨i, hi, rfl⟩ := List.getElem_of_mem hr
  have e : cth rows i = rows[i] := by simp [cth, hi, List.getD_eq_getElem?_getD]
  have hl := v.rl i hi
  rw [e] at hl
  unfold rowOk
  simp only [Bool.and_eq_true, decide_eq_true_eq, List.all_eq_true]
  refine ⟨by rw [hl, h0], fun x hx => ?_⟩
  obtain ⟨j, hj, rfl⟩ := List.getElem_of_mem hx
  have := v.rg i j hi (by omega)
  rw [e] at this
  rw [nth_get hj]
  exact this
theorem VB.k0 {rows : List (List Int)} {good : List Bool} {k : Nat} (v : VB rows good k) : (cth rows 0).length = k := v.rl 0 v.n1
theorem planVB {l : List Nat} {n k q : Nat} (n1 : 1 ≤ n) (n6 : n ≤ 6) (k1 : 1 ≤ k) (k3 : k ≤ 3) : VB (rowsP l n k q n) (goodP q n) k := by
  have row : ∀ i, i < n → cth (rowsP l n k q n) i = rowP l n k q i k := fun i hi => by simp [cth, rowsP, hi, List.getD_eq_getElem?_getD]
  refine ⟨by simp [rowsP]; omega, by simp [rowsP]; omega, by simp [rowsP, goodP], k1, k3, fun i hi => ?_, fun i j hi hj => ?_⟩
  · rw [row i (by simpa [rowsP] using hi)]; simp [rowP]
  · have hi' : i < n := by simpa [rowsP] using hi
    rw [row i hi']
    have e : nth (rowP l n k q i k) j = ((entPl l n k q i j : Nat) : Int) := by simp [nth, rowP, hj, List.getD_eq_getElem?_getD]
    have := entP_lt (l := l) (k := k) (q := q) (a := j) hi'
    rw [e]
    simp only [rowsP, List.length_map, List.length_range]
    omega
theorem planR {l : List Nat} {n k q : Nat} : IsRows (.fsl false n (pslP l n k q n)) (pslP l n k q n) (rowsP l n k q n) := by
  refine ⟨by simp [pslP, rowsP], fun i hi => ?_, .inr ⟨false, by simp [rowsP]⟩⟩
  have hi' : i < n := by simpa [rowsP] using hi
  have e1 : pth (pslP l n k q n) i = .fsl false k (ints (rowP l n k q i k)) := by simp [pth, pslP, hi', List.getD_eq_getElem?_getD]
  have e2 : cth (rowsP l n k q n) i = rowP l n k q i k := by simp [cth, rowsP, hi', List.getD_eq_getElem?_getD]
  rw [e1, e2]
  exact .inr ⟨false, by simp [rowP]⟩
theorem planG {q n : Nat} : IsB (.fsl false n (bls (goodP q n))) (goodP q n) := .inr ⟨false, by simp [goodP]⟩
theorem plan_spec {a0 a1 q : Nat} {nv : AV} {l : List Nat} (h0 : a0 < 256) (h1 : a1 < 256) (hq : q < 256) (hb : IsBy nv l) (hlb : ∀ x ∈ l, x < 256) :
    ∃ rows good k nv' gv ps, IsRows nv' ps rows ∧ IsB gv good ∧ VB rows good k ∧ ∀ m, denC prog ann 22 [.agg [.int .u8 (a0 : Nat), .int .u8 (a1 : Nat), nv, .int .u8 (q : Nat)]] m = some (.agg [nv', gv], m) := by
  have hn : 1 ≤ a0 % 6 + 1 ∧ a0 % 6 + 1 ≤ 6 := by omega
  have hk : 1 ≤ a1 % 3 + 1 ∧ a1 % 3 + 1 ≤ 3 := by omega
  refine ⟨rowsP l (a0 % 6 + 1) (a1 % 3 + 1) q (a0 % 6 + 1), goodP q (a0 % 6 + 1), a1 % 3 + 1, _, _, pslP l (a0 % 6 + 1) (a1 % 3 + 1) q (a0 % 6 + 1), planR, planG, planVB hn.1 hn.2 hk.1 hk.2, fun m => ?_⟩
  have c0 := wrapN (x := a0) (by omega)
  have c1 := wrapN (x := a1) (by omega)
  have m0 : ((a0 : Nat) : Int).tmod 6 = ((a0 % 6 : Nat) : Int) := by rw [Int.tmod_eq_emod_of_nonneg (by omega)]; simp
  have m1 : ((a1 : Nat) : Int).tmod 3 = ((a1 % 3 : Nat) : Int) := by rw [Int.tmod_eq_emod_of_nonneg (by omega)]; simp
  have w0 : IntKind.wrap .i64 (((a0 % 6 : Nat) : Int) + 1) = ((a0 % 6 + 1 : Nat) : Int) := by
    rw [wrap_id (by omega) (by omega)]; omega
  have w1 : IntKind.wrap .i64 (((a1 % 3 : Nat) : Int) + 1) = ((a1 % 3 + 1 : Nat) : Int) := by
    rw [wrap_id (by omega) (by omega)]; omega
  generalize a0 % 6 = n0 at *
  generalize a1 % 3 = k0 at *
  have lp := pl_out (a0 := a0) (a1 := a1) hb hlb (q := q) (n := n0 + 1) (k := k0 + 1) hq hn.1 hn.2 hk.1 hk.2 (o := 13) (lo := 14) (by omega) (by omega) (n0 + 1) 0 (upd (upd Mem.empty.h 0 (some (.cells [.nils, .nils]))) 13 (some (.cells [.nils, .nils]))) 14 .nils .nils (by omega) (by omega) ⟨by simp, by simp, .nil, .nil, by simp [objId]⟩
  simp only [Int.ofNat_zero, Int.cast_ofNat_Int, KP0] at lp
  rw [l07_Plan_made.call_eq _ _ (by simp [hb.closed])]
  simp [hb.one, hb.closed, c0, c1, m0, m1, w0, w1, -Int.natCast_add, -Int.natCast_emod]
  rw [lp]
  rfl
end Go.Proofs.Ythnpflkpjimkfaa

/-
  THE LEAST WORD THAT ONLY ONE OF TWO BRANDS ACCEPTS: the program's search. Conditions: none.
-/
namespace Go.Proofs.Ythnpflkpjimkfaa
open Go.AM
open Go.Proofs.Try (prog)
set_option linter.all false
set_option maxRecDepth 100000
set_option maxHeartbeats 8000000
def extL (w : List UInt8) (a : Nat) : List UInt8 := w ++ ltr a
end Go.Proofs.Ythnpflkpjimkfaa

/-
  THE STATES THAT WORDS REACH: the specification's list. Conditions: none.
-/
namespace Go.Proofs.Ythnpflkpjimkfaa
open Go.AM
open Go.Proofs.Try (prog)
set_option linter.all false
set_option maxRecDepth 100000
set_option maxHeartbeats 8000000
theorem Gl.deep {m : Mem} {v : AV} {id n : Nat} {xs : List AV} (g : Gl m v id 1 n xs) (d : Nat) (hd : ∀ x ∈ xs, AM.deep m.h d x = some x) : AM.deep m.h (d + 1) v = some (.fsl false n xs) := by
  obtain ⟨⟨pre, rfl, hm⟩, hn, hl⟩ := g
  have hn : xs.length = n := by omega
  have tk : xs.take n = xs := List.take_of_length_le (by omega)
  simp [AM.deep, hm, hn, tk, mapO_same xs hd]
structure Rc (m : Mem) (x4 x5 : AV) (i4 i5 : Nat) (S : List Nat × List (List UInt8)) : Prop where
  p : Gl m x4 i4 1 S.1.length (S.1.map encS)
  w : Gl m x5 i5 1 S.2.length (S.2.map .str)
  d1 : i4 ≠ i5
def rchS (rows : List (List Int)) (k : Nat) : List Nat × List (List UInt8) := bfsA (nx rows) extL k (rows.length + 1) 0 ([0], [[]])
end Go.Proofs.Ythnpflkpjimkfaa

/-
  ALIKE STATES: the specification's rounds. Conditions: none.
-/
namespace Go.Proofs.Ythnpflkpjimkfaa
open Go.AM
open Go.Proofs.Try (prog)
set_option linter.all false
set_option maxRecDepth 100000
set_option maxHeartbeats 8000000
def mbV (n : Nat) (L : MB) : AV := .fsl false L.length (L.map fun r => .fsl false n (bls r))
theorem bls_deep (h : Nat → Option AObj) (d : Nat) (l : List Bool) : mapO (AM.deep h (d + 1)) (bls l) = some (bls l) := mapO_same _ (fun x hx => by
  simp only [bls, List.mem_map] at hx
  obtain ⟨b, _, rfl⟩ := hx
  rfl)
theorem Bt.deep {h : Nat → Option AObj} {d : Nat} {ids : List Nat} {D : MB} {n : Nat} (B : Bt h d ids D n 0) (e : Nat) : AM.deep h (e + 3) (.sl d 1 0 D.length D.length) = some (mbV n D) := by
  have h1 : mapO (AM.deep h (e + 2)) (ids.map fun r => AV.sl r 1 0 n n) = some (D.map fun r => .fsl false n (bls r)) := by
    have key : ∀ (l : List Nat) (L : MB), l.length = L.length → (∀ i, i < L.length → h (rid l i) = some (.cells (bls (brw L i)))) → (∀ i, i < L.length → (brw L i).length = n) → mapO (AM.deep h (e + 2)) (l.map fun r => AV.sl r 1 0 n n) = some (L.map fun r => .fsl false n (bls r)) := by
      intro l
      induction l with
      | nil => intro L hl _ _; cases L with
        | nil => rfl
        | cons _ _ => simp at hl
      | cons x l ih =>
        intro L hl h1 h2
        cases L with
        | nil => simp at hl
        | cons row L =>
          have a1 := h1 0 (by simp)
          have a2 := h2 0 (by simp)
          simp [rid, brw] at a1 a2
          have ih := ih L (by simpa using hl) (fun i hi => h1 (i + 1) (by simpa using hi)) (fun i hi => h2 (i + 1) (by simpa using hi))
          simp only [List.map_cons, mapO, ih]
          have tk : (bls row).take n = bls row := List.take_of_length_le (by simp [a2])
          simp [AM.deep, a1, a2, bls_deep, tk, mapO_same]
    exact key ids D B.l B.r B.rl
  have hl : (ids.map fun r => AV.sl r 1 0 n n).length = D.length := by simp [B.l]
  have ho := B.o
  simp only [List.replicate_zero, List.append_nil] at ho
  have tk : (ids.map fun r => AV.sl r 1 0 n n).take D.length = ids.map fun r => AV.sl r 1 0 n n := List.take_of_length_le (by omega)
  have hi := B.l
  simp only [AM.deep, ho]
  simp [hi, tk, h1, mbV, List.take_of_length_le]
end Go.Proofs.Ythnpflkpjimkfaa

/-
  ALIKE STATES: the specification's first answers, and what it returns. Conditions: none.
-/
namespace Go.Proofs.Ythnpflkpjimkfaa
open Go.AM
open Go.Proofs.Try (prog)
set_option linter.all false
set_option maxRecDepth 100000
set_option maxHeartbeats 8000000
end Go.Proofs.Ythnpflkpjimkfaa

/-
  THE SMALLEST FORM: the specification numbers states. Conditions: none.
-/
namespace Go.Proofs.Ythnpflkpjimkfaa
open Go.AM
open Go.Proofs.Try (prog)
set_option linter.all false
set_option maxRecDepth 100000
set_option maxHeartbeats 8000000
section
variable {al : Nat → Nat → Bool} {nxt : Nat → Nat → Nat} {k n : Nat}
theorem ded_pw : ∀ (R P : List Nat), P.Pairwise (fun t u => al u t = false) → (R.foldl (fun P s => numS al s P) P).Pairwise (fun t u => al u t = false)
  | [], P, h => h
  | r :: R, P, h => by
    refine ded_pw R (numS al r P) ?_
    rw [numS]
    split
    · exact h
    · rename_i c
      rw [List.pairwise_append]
      refine ⟨h, by simp, ?_⟩
      intro t ht u hu
      simp at hu
      subst hu
      rcases q : al u t with _ | _
      · rfl
      · exact absurd (List.any_eq_true.2 ⟨t, ht, q⟩) c
variable {β : Type} {ext : β → Nat → β}
theorem bfsA_ok (L : Lik al nxt k n) {ln : β → Nat} (hex : ∀ w a, ln (ext w a) ≤ ln w + 1) : ∀ (f i : Nat) (S : List Nat × List β), BOk (· < n) ln S → i ≤ S.1.length → n < f + i → (∀ s ∈ S.1.take i, ∀ a, a < k → nxt s a ∈ S.1) →
    BOk (· < n) ln (bfsA nxt ext k f i S) ∧ ∀ s ∈ (bfsA nxt ext k f i S).1, ∀ a, a < k → nxt s a ∈ (bfsA nxt ext k f i S).1 := by
  intro f
  induction f with
  | zero =>
    intro i S hS hi hf
    have := nodup_sub hS.nd (L := List.range n) fun x hx => List.mem_range.2 (hS.all x hx)
    simp at this
    omega
  | succ f ih =>
    intro i S hS hi hf hcl
    by_cases c : i < S.1.length
    · have hx := List.getElem?_eq_getElem c
      have c2 : i < S.2.length := by rw [← hS.len]; exact c
      have hw := List.getElem?_eq_getElem c2
      generalize S.1[i] = q at hx
      generalize S.2[i] = w at hw
      have hq : q < n := hS.all q (List.mem_of_getElem? hx)
      rw [bfsA, hx, hw]
      simp only []
      have hS' := bIn_ok nxt ext (ok := (· < n)) (ln := ln) (k := k) (fun x a hx ha => L.cl x a hx ha) hex q w hq k 0 S (by omega) hS (hS.wl w (List.mem_of_getElem? hw))
      obtain ⟨p, p', e1, e2⟩ := bIn_pre nxt ext q w k 0 S
      refine ih (i + 1) _ hS' (by rw [e1]; simp; omega) (by omega) ?_
      have ht : (bIn nxt ext q w k 0 S).1.take (i + 1) = S.1.take i ++ [q] := by rw [e1, List.take_append_of_le_length (by omega), List.take_add_one, hx]; rfl
      rw [ht]
      intro s hs a ha
      rcases List.mem_append.1 hs with hs | hs
      · rw [e1]; exact List.mem_append_left _ (hcl s hs a ha)
      · simp at hs
        subst hs
        exact bIn_has s w k 0 S a (by omega) (by omega)
    · have hx : S.1[i]? = none := List.getElem?_eq_none (by omega)
      have e : bfsA nxt ext k (f + 1) i S = S := by rw [bfsA, hx]
      rw [e]
      refine ⟨hS, fun s hs a ha => hcl s ?_ a ha⟩
      rw [List.take_of_length_le (by omega)]; exact hs
end
theorem lik_alB {rows : List (List Int)} {good : List Bool} {k : Nat} (v : VB rows good k) : Lik (alB rows good k) (nx rows) k rows.length :=
  ⟨fun s _ => alB_refl s, fun s t _ _ h => alB_iff.2 (alk_symm (alB_iff.1 h)), fun s t u _ _ _ h g => alB_iff.2 (alk_trans (alB_iff.1 h) (alB_iff.1 g)), fun s t a _ _ ha h => alB_iff.2 (alk_step (alB_iff.1 h) ha), fun s a hs ha => (nx_lt v hs ha).1⟩
theorem rch_ok {rows : List (List Int)} {good : List Bool} {k : Nat} (v : VB rows good k) : BOk (· < rows.length) List.length (rchS rows k) ∧ ∀ s ∈ (rchS rows k).1, ∀ a, a < k → nx rows s a ∈ (rchS rows k).1 :=
  bfsA_ok (lik_alB v) (fun w a => by simp [extL, ltr]) (rows.length + 1) 0 ([0], [[]]) ⟨by simp, by have := v.n1; intro x hx; simp at hx; omega, rfl, by simp⟩ (by simp) (by omega) (by simp)
noncomputable def repL (rows : List (List Int)) (good : List Bool) (k : Nat) : List Nat := ded (alB rows good k) (rchS rows k).1
theorem repL_eq {rows : List (List Int)} {good : List Bool} {k : Nat} (v : VB rows good k) : bldN (alB rows good k) (nx rows) k (rows.length + 1) 0 [0] = repL rows good k := by
  have n1 := v.n1
  have := bfs_ded (ext := extL) (ln := List.length) (lik_alB v) (fun w a => by simp [extL, ltr]) (rows.length + 1) 0 ([0], [([] : List UInt8)]) ⟨by simp, by intro x hx; simp at hx; omega, rfl, by simp⟩ (by simp) (by omega) (by simp) (rows.length + 1) (by omega)
  exact this
end Go.Proofs.Ythnpflkpjimkfaa

/-
  THE SMALLEST FORM: the specification's numbers in memory. Conditions: none.
-/
namespace Go.Proofs.Ythnpflkpjimkfaa
open Go.AM
open Go.Proofs.Try (prog)
set_option linter.all false
set_option maxRecDepth 100000
set_option maxHeartbeats 8000000
theorem mbV_head {n : Nat} {L : MB} {i : Nat} (h : i < L.length) : ((L.map fun r => AV.fsl false n (bls r)).drop i).head? = some (.fsl false n (bls (brw L i))) := by
  rw [List.head?_drop]
  simp [h, brw, List.getD_eq_getElem?_getD]
theorem idxA_lt {al : Nat → Nat → Bool} {s : Nat} {P : List Nat} (c : P.any (al s) = true) : idxA al P s < P.length := by
  rw [idxA, List.findIdx_lt_length]
  simpa using c
end Go.Proofs.Ythnpflkpjimkfaa

/-
  THE SMALLEST FORM: what the program returns. Conditions: none.
-/
namespace Go.Proofs.Ythnpflkpjimkfaa
open Go.AM
open Go.Proofs.Try (prog)
set_option linter.all false
set_option maxRecDepth 100000
set_option maxHeartbeats 8000000
theorem smallest_spec {nv gv : AV} {ps : List AV} {rows : List (List Int)} {good : List Bool} {k : Nat} (hn : IsRows nv ps rows) (hg : IsB gv good) (v : VB rows good k) (m : Mem) :
    denC prog ann 56 [.agg [nv, gv]] m = some (resV (alB rows good k) rows good k (bldN (alB rows good k) (nx rows) k (rows.length + 1) 0 [0]), m) := by
  have n1 := v.n1
  have n6 := v.n6
  have hgl := v.gl
  have nn : rows.length * rows.length ≤ 36 := Nat.mul_le_mul n6 n6
  obtain ⟨F1, F2⟩ := fixD_end v (f := 37) (by omega)
  rw [brand_smallest.call_eq _ _ (by simp [hn.closed, hg.closed])]
  have h0 : ∀ h : Nat → Option AObj, h 1 = some (.cells (List.replicate rows.length .nils)) → h 0 = some (.cells [.nils, .nils]) → brand_smallest.L0 (.fptr [nv, gv]) (.ptr 0 0 2) (.int .i64 rows.length) (.sptr [.sl 1 1 0 rows.length rows.length]) (.int .i64 rows.length) (.int .i64 0) ⟨h, 3⟩ K0 = some (resV (alB rows good k) rows good k (bldN (alB rows good k) (nx rows) k (rows.length + 1) 0 [0]), Mem.empty) := by
    intro h e1 e0
    have B0 : Bt h 1 [] ((List.range 0).map fun i => (List.range rows.length).map fun j => !(bnth good i == bnth good j)) rows.length rows.length := ⟨by simp [e1], rfl, by simp, by simp, by simp, by simp⟩
    refine sm_d (gv := gv) (nv := nv) (x2 := .ptr 0 0 2) hg hgl n6 rows.length 0 h 3 [] (by omega) B0 (by omega) (by simp) ?_
    intro h' nx' ids B hd hids hnx hfr
    refine sm_w (gv := gv) (x2 := .ptr 0 0 2) hn v 37 h' nx' _ D0_mkd (by omega) B ?_
    intro h2 nx2 B2 hnx2 hfr2
    have hz : h2 0 = some (.cells [.nils, .nils]) := by
      have h00 : h' 0 = some (.cells [.nils, .nils]) := by rw [hfr 0 (by omega) (by omega) (by simp), e0]
      rw [hfr2 0 (fun e => by
        obtain ⟨i, hi, e⟩ := List.getElem_of_mem e
        have h3 : i < (D0 good rows.length).length := by rw [← B.l]; exact hi
        have := B.r i h3
        have e' : rid ids i = 0 := by simp [rid, List.getD_eq_getElem?_getD, hi, e]
        rw [e', h00] at this
        have hl := B.rl i h3
        have q := Option.some.inj this
        injection q with q
        have : (bls (brw (D0 good rows.length) i))[0]? = some .nils := by rw [← q]; rfl
        simp [bls] at this), h00]
    have hids2 : ∀ y ∈ ids, y < nx2 := fun y hy => by have := hids y hy; omega
    have fr : ∀ y, y < nx2 → (upd (upd (upd h2 nx2 (some (AObj.cells [AV.nils, AV.nils]))) (nx2 + 1) (some (AObj.cells [AV.int IntKind.i64 0]))) (nx2 + 1 + 1) (some (AObj.cells [AV.sl (nx2 + 1) 1 0 1 1]))) y = h2 y := fun y hy => by rw [updNe (by omega), updNe (by omega), updNe (by omega)]
    have st := sm_o (gv := gv) hn hg v (al := alB rows good k) (D := fixD rows k rows.length 37 (D0 good rows.length)) F1.l F2 (fun s _ => alB_refl s) (d := 1) (o := nx2) (z0 := 0) (ids := ids) (b := nx2 + 1 + 1) (S := nx2 + 1) (lo := nx2 + 3) (by omega) (fun y hy => by have := hids2 y hy; omega) (by omega) (by omega) (by omega) (by omega) ⟨by omega, fun e => by have := hids2 _ e; omega⟩ ⟨by omega, fun e => by have := hids2 _ e; omega⟩ ⟨by omega, fun e => by have := hids2 _ e; omega⟩ ⟨by omega, fun e => by
        obtain ⟨i, hi, e⟩ := List.getElem_of_mem e
        have h3 : i < (fixD rows k rows.length 37 (D0 good rows.length)).length := by rw [← B2.l]; exact hi
        have := B2.r i h3
        have e' : rid ids i = 0 := by simp [rid, List.getD_eq_getElem?_getD, hi, e]
        rw [e', hz] at this
        have hl := B2.rl i h3
        have q := Option.some.inj this
        injection q with q
        have : (bls (brw (fixD rows k rows.length 37 (D0 good rows.length)) i))[0]? = some .nils := by rw [← q]; rfl
        simp [bls] at this⟩ (by omega) (by omega) (by omega) (rows.length + 1) 0 _ (nx2 + 1 + 1 + 1) [0] .nils .nils (B2.fr (fr 1 (by omega)) (fun y hy => fr y (hids2 y hy))) ⟨by simp, by rw [updNe (by omega)]; simp [encS], by omega⟩ (by simp) (by intro x hx; simp at hx; omega) (by simp) (by omega) (by simp) (by omega) ⟨by rw [updNe (by omega), updNe (by omega)]; simp, by rw [fr 0 (by omega)]; exact hz, .nil, .nil, by simp [objId]⟩ (by simp)
    simp only [Int.ofNat_zero, Int.cast_ofNat_Int, K12] at st
    rw [brand_smallest.L4_eq]
    simp [K4]
    exact st
  have h1 := h0 (upd (upd (upd (upd Mem.empty.h 0 (some (AObj.cells [AV.nils, AV.nils]))) 1 (some (AObj.cells (List.replicate rows.length AV.nils)))) 2 (some (AObj.cells [AV.sl 1 1 0 rows.length rows.length]))) 2 none) (by simp) (by simp)
  simp [K0, K4] at h1
  simp [hn.one, hg.one, hn.closed, hg.closed, hn.len, show rows.length ≤ 4611686018427387904 by omega, show rows.length * 24 ≤ 70368744177664 by omega]
  rw [h1]
  rfl
end Go.Proofs.Ythnpflkpjimkfaa

/-
  THE SMALLEST FORM: what the specification returns. Conditions: none.
-/
namespace Go.Proofs.Ythnpflkpjimkfaa
open Go.AM
open Go.Proofs.Try (prog)
set_option linter.all false
set_option maxRecDepth 100000
set_option maxHeartbeats 8000000
end Go.Proofs.Ythnpflkpjimkfaa

/-
  THE SAME BRAND: the test answers yes for the same; the smallest form is a brand. Conditions: none.
-/
namespace Go.Proofs.Ythnpflkpjimkfaa
open Go.AM
open Go.Proofs.Try (prog)
set_option linter.all false
set_option maxRecDepth 100000
set_option maxHeartbeats 8000000
noncomputable def rowsM (rows : List (List Int)) (good : List Bool) (k : Nat) : List (List Int) := (repL rows good k).map fun q => (List.range k).map fun a => ((idxA (alB rows good k) (repL rows good k) (nx rows q a) : Nat) : Int)
noncomputable def goodM (rows : List (List Int)) (good : List Bool) (k : Nat) : List Bool := (repL rows good k).map (bnth good)
noncomputable def psM (rows : List (List Int)) (good : List Bool) (k : Nat) : List AV := (repL rows good k).map (rowF (alB rows good k) rows k (repL rows good k))
noncomputable def nvM (rows : List (List Int)) (good : List Bool) (k : Nat) : AV := .fsl false (repL rows good k).length (psM rows good k)
noncomputable def gvM (rows : List (List Int)) (good : List Bool) (k : Nat) : AV := .fsl false (repL rows good k).length (bls (goodM rows good k))
theorem resV_eq (rows : List (List Int)) (good : List Bool) (k : Nat) : resV (alB rows good k) rows good k (repL rows good k) = .agg [nvM rows good k, gvM rows good k] := by
  simp [resV, nvM, gvM, psM, goodM, bls]
theorem isB_M (rows : List (List Int)) (good : List Bool) (k : Nat) : IsB (gvM rows good k) (goodM rows good k) := .inr ⟨false, by simp [gvM, goodM]⟩
theorem isRows_M (rows : List (List Int)) (good : List Bool) (k : Nat) : IsRows (nvM rows good k) (psM rows good k) (rowsM rows good k) := by
  refine ⟨by simp [psM, rowsM], fun i hi => ?_, .inr ⟨false, by simp [nvM, rowsM]⟩⟩
  have hi' : i < (repL rows good k).length := by simpa [rowsM] using hi
  have e1 : pth (psM rows good k) i = rowF (alB rows good k) rows k (repL rows good k) (repL rows good k)[i] := by simp [pth, psM, hi', List.getD_eq_getElem?_getD]
  have e2 : cth (rowsM rows good k) i = (List.range k).map fun a => ((idxA (alB rows good k) (repL rows good k) (nx rows (repL rows good k)[i] a) : Nat) : Int) := by simp [cth, rowsM, hi', List.getD_eq_getElem?_getD]
  rw [e1, e2]
  exact .inr ⟨false, by simp [rowF, rowV, ints]⟩
theorem rowsM_len (rows : List (List Int)) (good : List Bool) (k : Nat) : (rowsM rows good k).length = (repL rows good k).length := by simp [rowsM]
theorem repL_few {rows : List (List Int)} {good : List Bool} {k : Nat} (v : VB rows good k) : (repL rows good k).length ≤ rows.length ∧ 0 < (repL rows good k).length ∧ 0 ∈ (rchS rows k).1 := by
  obtain ⟨R1, R2⟩ := rch_ok v
  have hle : (repL rows good k).length ≤ rows.length := by
    have := ded_len (al := alB rows good k) (rchS rows k).1 []
    have e : (repL rows good k).length ≤ 0 + (rchS rows k).1.length := this
    have := nodup_sub R1.nd (L := List.range rows.length) fun x hx => List.mem_range.2 (R1.all x hx)
    simp at this
    omega
  have h0 : 0 ∈ (rchS rows k).1 := by
    have hp : ∀ (f i : Nat) (S : List Nat × List (List UInt8)), 0 ∈ S.1 → 0 ∈ (bfsA (nx rows) extL k f i S).1 := by
      intro f
      induction f with
      | zero => intro i S h; exact h
      | succ f ih =>
        intro i S h
        rw [bfsA]
        split
        · rename_i x w _ _
          obtain ⟨p, _, e1, _⟩ := bIn_pre (nx rows) extL x w k 0 S
          exact ih _ _ (by rw [e1]; exact List.mem_append_left _ h)
        · exact h
    exact hp _ _ _ (by simp)
  have := ded_any (lik_alB v) (rchS rows k).1 R1.all 0 h0
  obtain ⟨u, hu, _⟩ := List.any_eq_true.1 this
  exact ⟨hle, List.length_pos_of_mem hu, h0⟩
theorem VB_M {rows : List (List Int)} {good : List Bool} {k : Nat} (v : VB rows good k) : VB (rowsM rows good k) (goodM rows good k) k := by
  obtain ⟨h1, h2, h3⟩ := repL_few v
  obtain ⟨R1, R2⟩ := rch_ok v
  have n6 := v.n6
  have row : ∀ i (hi : i < (repL rows good k).length), cth (rowsM rows good k) i = (List.range k).map fun a => ((idxA (alB rows good k) (repL rows good k) (nx rows (repL rows good k)[i] a) : Nat) : Int) := fun i hi => by simp [cth, rowsM, hi, List.getD_eq_getElem?_getD]
  refine ⟨by rw [rowsM_len]; omega, by rw [rowsM_len]; omega, by simp [goodM, rowsM], v.k1, v.k3, fun i hi => ?_, fun i j hi hj => ?_⟩
  · rw [rowsM_len] at hi
    rw [row i hi]; simp
  · rw [rowsM_len] at hi
    rw [row i hi, rowsM_len]
    have hm : (repL rows good k)[i] ∈ (rchS rows k).1 := ded_mem (List.getElem_mem hi)
    have := idxA_lt (ded_any (lik_alB v) (rchS rows k).1 R1.all _ (R2 _ hm j hj))
    have e : nth ((List.range k).map fun a => ((idxA (alB rows good k) (repL rows good k) (nx rows (repL rows good k)[i] a) : Nat) : Int)) j = ((idxA (alB rows good k) (repL rows good k) (nx rows (repL rows good k)[i] j) : Nat) : Int) := by simp [nth, hj, List.getD_eq_getElem?_getD]
    rw [e]
    have this : idxA (alB rows good k) (repL rows good k) (nx rows (repL rows good k)[i] j) < (repL rows good k).length := this
    omega
end Go.Proofs.Ythnpflkpjimkfaa

/-
  BODIES OF FUNCTIONS OF THE PROGRAM AS SMALL OPERATIONS (written by gen.py; checked by the kernel against the program). Conditions: none.
-/
namespace Go.Proofs.Ythnpflkpjimkfaa
open Go.AM
open Go.Proofs.Try (prog)
set_option maxRecDepth 100000
set_option linter.all false
namespace brand_made
noncomputable section
variable (K : List Item) (s : St)
def b : Code := (Try.f70.body).getD .skip
theorem hf : prog.funcs[70]? = some Try.f70 := by kernel_rfl
def r0 := findReg b 0
def r1 := findReg b 1
def i0 := findCond b 0
def i0t := thenOf i0
def i0e := elseOf i0
def r2 := findReg b 2
def r3 := findReg b 3
def r4 := findReg b 4
def r5 := findReg b 5
def k0 := findBlk b 0
def l0 := loopOf k0
def L0 (x4 x5 : AV) (m : Mem) (K : List Item) : Option Res := den prog ann 70 (.code l0 :: .inLoop l0 :: .inBlock 0 :: K) ⟨[(4, x4), (5, x5)], 101, m⟩
def r6 := findReg b 6
def i1 := findCond b 1
def i1t := thenOf i1
def i1e := elseOf i1
def k1 := findBlk b 1
def r8 := findReg b 8
def k2 := findBlk b 2
def l2 := loopOf k2
def L2 (x4 x5 x44 x45 : AV) (m : Mem) (K : List Item) : Option Res := den prog ann 70 (.code l2 :: .inLoop l2 :: .inBlock 2 :: K) ⟨[(4, x4), (5, x5), (44, x44), (45, x45)], 101, m⟩
def r9 := findReg b 9
def i2 := findCond b 2
def i2t := thenOf i2
def i2e := elseOf i2
def k3 := findBlk b 3
def r10 := findReg b 10
def r11 := findReg b 11
def r12 := findReg b 12
def r13 := findReg b 13
def r14 := findReg b 14
def i3 := findCond b 3
def i3t := thenOf i3
def i3e := elseOf i3
def r15 := findReg b 15
def i4 := findCond b 4
def i4t := thenOf i4
def i4e := elseOf i4
def r16 := findReg b 16
def r17 := findReg b 17
def r18 := findReg b 18
def r19 := findReg b 19
def r7 := findReg b 7
def r20 := findReg b 20
theorem b_eq : den prog ann 70 (.code b :: K) s = den prog ann 70 (.code r0 :: .code r1 :: .code i0 :: .code r3 :: .code r4 :: .code r5 :: .code k0 :: .code r20 :: .code .ret :: K) s := den_flat hf (l := [r0, r1, i0, r3, r4, r5, k0, r20, .ret]) (by kernel_rfl) K s
theorem r0_eq : den prog ann 70 (.code r0 :: K) s = mreg prog ann 70 none [] none [] [qA 1 frozenPtr 0,qF 2 fun s => some (.nilp),qF 3 fun s => some (.int .i64 0)] K s := (den_reg hf _ K s).trans (by kernel_rfl)
theorem r1_eq : den prog ann 70 (.code r1 :: K) s = mreg prog ann 70 none [] none [] [qA 11 (loadF true 2) 1,⟨some 12, none, .c 0 (fun s => (.fn 55 [] [])) fun s => [(s.get 11)]⟩,qA 13 (unA .not) 12] K s := (den_reg hf _ K s).trans (by kernel_rfl)
theorem i0_eq : den prog ann 70 (.code i0 :: K) s = ifV prog ann 70 13 i0t i0e K s (s.get 13) := den_if hf (by kernel_rfl) K s
theorem i0t_eq : den prog ann 70 (.code i0t :: K) s = den prog ann 70 (.code r2 :: .code .ret :: K) s := den_flat hf (l := [r2, .ret]) (by kernel_rfl) K s
theorem r2_eq : den prog ann 70 (.code r2 :: K) s = mreg prog ann 70 none [] none [] [qF 2 fun s => some (.nilp),qF 3 fun s => some (.int .i64 1)] K s := (den_reg hf _ K s).trans (by kernel_rfl)
theorem i0e_eq : den prog ann 70 (.code i0e :: K) s = den prog ann 70 (K) s := den_flat hf (l := []) (by kernel_rfl) K s
theorem r3_eq : den prog ann 70 (.code r3 :: K) s = mreg prog ann 70 none [] none [] [qA 14 (loadF true 2) 1,⟨some 15, none, .c 0 (fun s => (.fn 56 [] [])) fun s => [(s.get 14)]⟩,qF 16 fun s => bslF 1 (bslA 1 1 [.str []] [(0, (.str []))]),⟨some 17, none, .w false none fun s => some (.map s.m.nx, s.m.new (.map 0 [] []))⟩,qF 18 fun s => bldA (plc [(0, 2), (2, 1), (3, 1)]) [.nils, .nils, .nils, .nilm] [(0, (s.get 15)), (1, (s.get 16)), (2, (s.get 17))],⟨some 19, none, .w false none fun s => newPtr s.m (AV.cells (s.get 18))⟩,qC 4 19] K s := (den_reg hf _ K s).trans (by kernel_rfl)
theorem r4_draw : drawOk (fun g => (ann g).pure) (modeOf (ann 70) (idOf r4)) (frzOf (ann 70) (idOf r4)) (opsOf r4) = true := drawOk_of (an := [0, 1, 3, 7, 0, 0, 32, 112, 255]) (by kernel_rfl) (by kernel_rfl)
theorem r4_eq : den prog ann 70 (.code r4 :: K) s = mreg prog ann 70 none [] (some 9) [] [qC 20 4,qA 21 nilA 20,qA 22 (fieldA 3) 21,qF 23 fun s => loadA false 1 s.m (s.get 22),qC 24 4,qF 25 fun s => bldA (plc []) [] [],qF 26 fun s => some (.iface 142 (s.get 25)),⟨some 27, none, .c 0 (fun s => (.fn 87 [] [])) fun s => [(s.get 24), (s.get 26)]⟩,⟨none, none, .w false (some 8) fun s => updM prog s.m 139 (s.get 23) (s.get 27) (.int .i64 0)⟩] K s := (den_regD hf r4_draw K s).trans (by kernel_rfl)
theorem r5_eq : den prog ann 70 (.code r5 :: K) s = mreg prog ann 70 none [] none [] [qF 5 fun s => some (.int .i64 0)] K s := (den_reg hf _ K s).trans (by kernel_rfl)
theorem k0_eq (K : List Item) (t : List (Nat × AV)) (m : Mem) : den prog ann 70 (.code k0 :: K) ⟨t, 101, m⟩ = L0 (get t 4) (get t 5) m K := den_loop_enter hf (b := l0) (id := 6) (l := [4, 5]) (by kernel_rfl) (by kernel_rfl) (by kernel_rfl) K _
theorem l0_eq (K : List Item) (t : List (Nat × AV)) (m : Mem) : den prog ann 70 (.inLoop l0 :: .inBlock 0 :: K) ⟨t, 101, m⟩ = L0 (get t 4) (get t 5) m K := den_loop_again hf (id := 6) (l := [4, 5]) (by kernel_rfl) (by kernel_rfl) (.inBlock 0 :: K) _
theorem L0_eq (x4 x5 : AV) (m : Mem) (K : List Item) : L0 x4 x5 m K = den prog ann 70 (.code r6 :: .code i1 :: .code k1 :: .code r7 :: .inLoop l0 :: .inBlock 0 :: K) ⟨[(4, x4), (5, x5)], 101, m⟩ := den_flat hf (l := [r6, i1, k1, r7]) (by kernel_rfl) _ _
theorem r6_eq : den prog ann 70 (.code r6 :: K) s = mreg prog ann 70 (some [4, 5]) [] none [] [qC 28 5,qC 29 4,qA 30 nilA 29,qA 31 (fieldA 2) 30,qF 32 fun s => loadA false 1 s.m (s.get 31),qA 33 lenSl 32,qB 34 (binA prog .lss 3) 28 33] K s := (den_reg hf _ K s).trans (by kernel_rfl)
theorem i1_eq : den prog ann 70 (.code i1 :: K) s = ifV prog ann 70 34 i1t i1e K s (s.get 34) := den_if hf (by kernel_rfl) K s
theorem i1t_eq : den prog ann 70 (.code i1t :: K) s = den prog ann 70 (K) s := den_flat hf (l := []) (by kernel_rfl) K s
theorem i1e_eq : den prog ann 70 (.code i1e :: K) s = den prog ann 70 (.code (.exit 0) :: K) s := den_flat hf (l := [(.exit 0)]) (by kernel_rfl) K s
theorem k1_eq : den prog ann 70 (.code k1 :: K) s = den prog ann 70 (.code r8 :: .code k2 :: .inBlock 1 :: K) s := den_blk hf (b := blkOf k1) (l := [r8, k2]) (by kernel_rfl) (by kernel_rfl) K s
theorem r8_eq : den prog ann 70 (.code r8 :: K) s = mreg prog ann 70 none [] none [] [qC 37 4,qA 38 nilA 37,qA 39 (fieldA 0) 38,qA 40 (fieldA 0) 39,qF 41 fun s => loadA false 1 s.m (s.get 40),qF 42 fun s => idxSl 1 (s.get 41) (.int .i64 0),qF 43 fun s => loadA false 1 s.m (s.get 42),qA 44 lenSl 43,qF 45 fun s => some (.int .i64 0)] K s := (den_reg hf _ K s).trans (by kernel_rfl)
theorem k2_eq (K : List Item) (t : List (Nat × AV)) (m : Mem) : den prog ann 70 (.code k2 :: K) ⟨t, 101, m⟩ = L2 (get t 4) (get t 5) (get t 44) (get t 45) m K := den_loop_enter hf (b := l2) (id := 9) (l := [4, 5, 44, 45]) (by kernel_rfl) (by kernel_rfl) (by kernel_rfl) K _
theorem l2_eq (K : List Item) (t : List (Nat × AV)) (m : Mem) : den prog ann 70 (.inLoop l2 :: .inBlock 2 :: K) ⟨t, 101, m⟩ = L2 (get t 4) (get t 5) (get t 44) (get t 45) m K := den_loop_again hf (id := 9) (l := [4, 5, 44, 45]) (by kernel_rfl) (by kernel_rfl) (.inBlock 2 :: K) _
theorem L2_eq (x4 x5 x44 x45 : AV) (m : Mem) (K : List Item) : L2 x4 x5 x44 x45 m K = den prog ann 70 (.code r9 :: .code i2 :: .code k3 :: .code r19 :: .inLoop l2 :: .inBlock 2 :: K) ⟨[(4, x4), (5, x5), (44, x44), (45, x45)], 101, m⟩ := den_flat hf (l := [r9, i2, k3, r19]) (by kernel_rfl) _ _
theorem r9_eq : den prog ann 70 (.code r9 :: K) s = mreg prog ann 70 (some [4, 5, 44, 45]) [] none [] [qB 46 (binA prog .lss 3) 45 44] K s := (den_reg hf _ K s).trans (by kernel_rfl)
theorem i2_eq : den prog ann 70 (.code i2 :: K) s = ifV prog ann 70 46 i2t i2e K s (s.get 46) := den_if hf (by kernel_rfl) K s
theorem i2t_eq : den prog ann 70 (.code i2t :: K) s = den prog ann 70 (K) s := den_flat hf (l := []) (by kernel_rfl) K s
theorem i2e_eq : den prog ann 70 (.code i2e :: K) s = den prog ann 70 (.code (.exit 2) :: K) s := den_flat hf (l := [(.exit 2)]) (by kernel_rfl) K s
theorem k3_eq : den prog ann 70 (.code k3 :: K) s = den prog ann 70 (.code r10 :: .code r11 :: .code r12 :: .code r13 :: .code r14 :: .code i3 :: .code r15 :: .code i4 :: .code r17 :: .code r18 :: .inBlock 3 :: K) s := den_blk hf (b := blkOf k3) (l := [r10, r11, r12, r13, r14, i3, r15, i4, r17, r18]) (by kernel_rfl) (by kernel_rfl) K s
theorem r10_eq : den prog ann 70 (.code r10 :: K) s = mreg prog ann 70 none [] none [] [qC 47 45,qC 6 47] K s := (den_reg hf _ K s).trans (by kernel_rfl)
theorem r11_draw : drawOk (fun g => (ann g).pure) (modeOf (ann 70) (idOf r11)) (frzOf (ann 70) (idOf r11)) (opsOf r11) = true := drawOk_of (an := [0, 1, 3, 7, 0, 31, 63, 0, 128, 511, 1023]) (by kernel_rfl) (by kernel_rfl)
theorem r11_eq : den prog ann 70 (.code r11 :: K) s = mreg prog ann 70 none [] (some 11) [] [qC 48 4,qA 49 nilA 48,qA 50 (fieldA 2) 49,qF 51 fun s => loadA false 1 s.m (s.get 50),qC 52 5,qB 53 (idxSl 1) 51 52,qF 54 fun s => loadA false 1 s.m (s.get 53),qC 55 6,⟨some 56, none, .c 0 (fun s => (.fn 59 [] [])) fun s => [(s.get 55)]⟩,qB 57 (binA prog .add 9) 54 56,qC 7 57] K s := (den_regD hf r11_draw K s).trans (by kernel_rfl)
theorem r12_eq : den prog ann 70 (.code r12 :: K) s = mreg prog ann 70 none [] none [8] [qC 58 4,qC 59 4,qC 60 7,⟨some 61, none, .c 0 (fun s => (.fn 88 [] [])) fun s => [(s.get 59), (s.get 60)]⟩,⟨some 62, none, .c 0 (fun s => (.fn 87 [] [])) fun s => [(s.get 58), (s.get 61)]⟩,⟨some 8, none, .w false none fun s => newPtr s.m [.int .i64 0, .int .i64 0, .int .i64 0, .int .i64 0, .int .i64 0, .int .i64 0]⟩,⟨none, none, .w false none fun s => stA true 6 s.m (s.get 8) (s.get 62)⟩] K s := (den_reg hf _ K s).trans (by kernel_rfl)
theorem r13_draw : drawOk (fun g => (ann g).pure) (modeOf (ann 70) (idOf r13)) (frzOf (ann 70) (idOf r13)) (opsOf r13) = true := drawOk_of (an := [0, 1, 3, 7, 0, 31, 63, 127, 127, 255, 1023]) (by kernel_rfl) (by kernel_rfl)
theorem r13_eq : den prog ann 70 (.code r13 :: K) s = mreg prog ann 70 none [] (some 11) [] [qC 64 4,qA 65 nilA 64,qA 66 (fieldA 3) 65,qF 67 fun s => loadA false 1 s.m (s.get 66),qA 68 (loadF true 6) 8,qF 69 fun s => lookP prog s.m 139 (.int .i64 0) (s.get 67) (s.get 68) true,qC 63 69,qF 70 fun s => extA (s.get 63) 0,qF 71 fun s => extA (s.get 63) 1,qC 9 70,qC 10 71] K s := (den_regD hf r13_draw K s).trans (by kernel_rfl)
theorem r14_eq : den prog ann 70 (.code r14 :: K) s = mreg prog ann 70 none [] none [] [qC 72 10] K s := (den_reg hf _ K s).trans (by kernel_rfl)
theorem i3_eq : den prog ann 70 (.code i3 :: K) s = ifV prog ann 70 72 i3t i3e K s (s.get 72) := den_if hf (by kernel_rfl) K s
theorem i3t_eq : den prog ann 70 (.code i3t :: K) s = den prog ann 70 (.code (.exit 3) :: K) s := den_flat hf (l := [(.exit 3)]) (by kernel_rfl) K s
theorem i3e_eq : den prog ann 70 (.code i3e :: K) s = den prog ann 70 (K) s := den_flat hf (l := []) (by kernel_rfl) K s
theorem r15_eq : den prog ann 70 (.code r15 :: K) s = mreg prog ann 70 none [] none [] [qC 73 4,qA 74 nilA 73,qA 75 (fieldA 2) 74,qF 76 fun s => loadA false 1 s.m (s.get 75),qA 77 lenSl 76,qF 78 fun s => binA prog .eql 3 (s.get 77) (.int .i64 400)] K s := (den_reg hf _ K s).trans (by kernel_rfl)
theorem i4_eq : den prog ann 70 (.code i4 :: K) s = ifV prog ann 70 78 i4t i4e K s (s.get 78) := den_if hf (by kernel_rfl) K s
theorem i4t_eq : den prog ann 70 (.code i4t :: K) s = den prog ann 70 (.code r16 :: .code .ret :: K) s := den_flat hf (l := [r16, .ret]) (by kernel_rfl) K s
theorem r16_eq : den prog ann 70 (.code r16 :: K) s = mreg prog ann 70 none [] none [] [qF 2 fun s => some (.nilp),qF 3 fun s => some (.int .i64 7)] K s := (den_reg hf _ K s).trans (by kernel_rfl)
theorem i4e_eq : den prog ann 70 (.code i4e :: K) s = den prog ann 70 (K) s := den_flat hf (l := []) (by kernel_rfl) K s
theorem r17_draw : drawOk (fun g => (ann g).pure) (modeOf (ann 70) (idOf r17)) (frzOf (ann 70) (idOf r17)) (opsOf r17) = true := drawOk_of (an := [0, 1, 3, 7, 0, 0, 32, 96, 224, 480, 1023]) (by kernel_rfl) (by kernel_rfl)
theorem r17_eq : den prog ann 70 (.code r17 :: K) s = mreg prog ann 70 none [] (some 11) [] [qC 79 4,qA 80 nilA 79,qA 81 (fieldA 3) 80,qF 82 fun s => loadA false 1 s.m (s.get 81),qA 83 (loadF true 6) 8,qC 84 4,qA 85 nilA 84,qA 86 (fieldA 2) 85,qF 87 fun s => loadA false 1 s.m (s.get 86),qA 88 lenSl 87,⟨none, none, .w false (some 10) fun s => updM prog s.m 139 (s.get 82) (s.get 83) (s.get 88)⟩] K s := (den_regD hf r17_draw K s).trans (by kernel_rfl)
theorem r18_eq : den prog ann 70 (.code r18 :: K) s = mreg prog ann 70 none [] none [] [qC 89 4,qC 90 4,qA 91 nilA 90,qA 92 (fieldA 2) 91,qF 93 fun s => loadA false 1 s.m (s.get 92),qC 94 7,qF 95 fun s => bslF 1 (bslA 1 1 [.str []] [(0, (s.get 94))]),⟨some 96, none, .w false none fun s => appendA 1 16 s.m (s.get 93) (s.get 95)⟩,qA 97 nilA 89,qA 98 (fieldA 2) 97,⟨none, none, .w false none fun s => stA false 1 s.m (s.get 98) (s.get 96)⟩] K s := (den_reg hf _ K s).trans (by kernel_rfl)
theorem r19_eq : den prog ann 70 (.code r19 :: K) s = mreg prog ann 70 (some [4, 5, 44, 45]) [] none [] [qF 99 fun s => binA prog .add 3 (s.get 45) (.int .i64 1),qC 45 99] K s := (den_reg hf _ K s).trans (by kernel_rfl)
theorem r7_eq : den prog ann 70 (.code r7 :: K) s = mreg prog ann 70 (some [4, 5]) [] none [] [qC 35 5,qF 36 fun s => binA prog .add 3 (s.get 35) (.int .i64 1),qC 5 36] K s := (den_reg hf _ K s).trans (by kernel_rfl)
theorem r20_eq : den prog ann 70 (.code r20 :: K) s = mreg prog ann 70 (some [4]) [] none [] [qC 100 4,qC 2 100,qF 3 fun s => some (.int .i64 0)] K s := (den_reg hf _ K s).trans (by kernel_rfl)
theorem ret_eq : den prog ann 70 (.code .ret :: K) s = finM true [fun s => some (s.get 2), fun s => some (s.get 3)] s := (den_ret hf K s).trans (by kernel_rfl)
theorem nil_eq (s : St) : den prog ann 70 [] s = finM true [fun s => some (s.get 2), fun s => some (s.get 3)] s := (den_nil hf s).trans (by kernel_rfl)
theorem inBlock_eq (id : Nat) (K : List Item) (s : St) : den prog ann 70 (.inBlock id :: K) s = den prog ann 70 K s := den_inBlock hf id K s
theorem exit_eq (id : Nat) (K : List Item) (s : St) : den prog ann 70 (.code (.exit id) :: K) s = exitV prog ann 70 (exitTo id K) s := den_exitV hf id K s
theorem call_eq (v0 : AV) (m : Mem) (h : closedL [v0] = true) : denC prog ann 70 [v0] m = (den prog ann 70 [.code b] ⟨[(0, v0)], 101, Mem.empty⟩).bind fun r => some (r.1, m) := (denC_pure hf (b := b) (by kernel_rfl) (by kernel_rfl) (by kernel_rfl) h m).trans (by kernel_rfl)
theorem pure_eq : (ann 70).pure = true := by kernel_rfl
attribute [simp] b_eq r0_eq r1_eq i0_eq i0t_eq r2_eq i0e_eq r3_eq r4_eq r5_eq k0_eq l0_eq r6_eq i1_eq i1t_eq i1e_eq k1_eq r8_eq k2_eq l2_eq r9_eq i2_eq i2t_eq i2e_eq k3_eq r10_eq r11_eq r12_eq r13_eq r14_eq i3_eq i3t_eq i3e_eq r15_eq i4_eq i4t_eq r16_eq i4e_eq r17_eq r18_eq r19_eq r7_eq r20_eq ret_eq nil_eq inBlock_eq exit_eq pure_eq
end
end brand_made
namespace brand_monoid_number
noncomputable section
variable (K : List Item) (s : St)
def b : Code := (Try.f71.body).getD .skip
theorem hf : prog.funcs[71]? = some Try.f71 := by kernel_rfl
def r0 := findReg b 0
def r1 := findReg b 1
theorem b_eq : den prog ann 71 (.code b :: K) s = den prog ann 71 (.code r0 :: .code r1 :: .code .ret :: K) s := den_flat hf (l := [r0, r1, .ret]) (by kernel_rfl) K s
theorem r0_eq : den prog ann 71 (.code r0 :: K) s = mreg prog ann 71 none [] none [] [qF 4 fun s => some (.int .i64 0)] K s := (den_reg hf _ K s).trans (by kernel_rfl)
theorem r1_draw : drawOk (fun g => (ann g).pure) (modeOf (ann 71) (idOf r1)) (frzOf (ann 71) (idOf r1)) (opsOf r1) = true := drawOk_of (an := [0, 1, 3, 7, 0, 0, 0, 96, 240, 511, 1023]) (by kernel_rfl) (by kernel_rfl)
theorem r1_eq : den prog ann 71 (.code r1 :: K) s = mreg prog ann 71 none [] (some 11) [] [qC 5 0,qA 6 nilA 5,qA 7 (fieldA 3) 6,qA 8 (loadF false 1) 7,qC 9 0,qC 10 0,qC 11 1,⟨some 12, none, .c 0 (fun s => (.fn 88 [] [])) fun s => [(s.get 10), (s.get 11)]⟩,⟨some 13, none, .c 0 (fun s => (.fn 87 [] [])) fun s => [(s.get 9), (s.get 12)]⟩,qF 14 fun s => lookP prog s.m 139 (.int .i64 0) (s.get 8) (s.get 13) false,qC 4 14] K s := (den_regD hf r1_draw K s).trans (by kernel_rfl)
theorem ret_eq : den prog ann 71 (.code .ret :: K) s = finM true [fun s => some (s.get 4)] s := (den_ret hf K s).trans (by kernel_rfl)
theorem nil_eq (s : St) : den prog ann 71 [] s = finM true [fun s => some (s.get 4)] s := (den_nil hf s).trans (by kernel_rfl)
theorem inBlock_eq (id : Nat) (K : List Item) (s : St) : den prog ann 71 (.inBlock id :: K) s = den prog ann 71 K s := den_inBlock hf id K s
theorem exit_eq (id : Nat) (K : List Item) (s : St) : den prog ann 71 (.code (.exit id) :: K) s = exitV prog ann 71 (exitTo id K) s := den_exitV hf id K s
theorem call_eq (v0 v1 : AV) (m : Mem) (h : closedL [v0, v1] = true) : denC prog ann 71 [v0, v1] m = (den prog ann 71 [.code b] ⟨[(0, v0), (1, v1)], 15, Mem.empty⟩).bind fun r => some (r.1, m) := (denC_pure hf (b := b) (by kernel_rfl) (by kernel_rfl) (by kernel_rfl) h m).trans (by kernel_rfl)
theorem pure_eq : (ann 71).pure = true := by kernel_rfl
attribute [simp] b_eq r0_eq r1_eq ret_eq nil_eq inBlock_eq exit_eq pure_eq
end
end brand_monoid_number
namespace brand_monoid_table
noncomputable section
variable (K : List Item) (s : St)
def b : Code := (Try.f87.body).getD .skip
theorem hf : prog.funcs[87]? = some Try.f87 := by kernel_rfl
def r0 := findReg b 0
def r1 := findReg b 1
def k0 := findBlk b 0
def r2 := findReg b 2
def i0 := findCond b 0
def i0t := thenOf i0
def i0e := elseOf i0
def r3 := findReg b 3
def r4 := findReg b 4
def r5 := findReg b 5
def i1 := findCond b 1
def i1t := thenOf i1
def i1e := elseOf i1
def r6 := findReg b 6
def r7 := findReg b 7
def r8 := findReg b 8
def k1 := findBlk b 1
def l1 := loopOf k1
def L1 (x4 x6 x7 x22 x23 : AV) (m : Mem) (K : List Item) : Option Res := den prog ann 87 (.code l1 :: .inLoop l1 :: .inBlock 1 :: K) ⟨[(4, x4), (6, x6), (7, x7), (22, x22), (23, x23)], 34, m⟩
def r9 := findReg b 9
def i2 := findCond b 2
def i2t := thenOf i2
def i2e := elseOf i2
def k2 := findBlk b 2
def r10 := findReg b 10
def r11 := findReg b 11
def r12 := findReg b 12
def r13 := findReg b 13
def r14 := findReg b 14
theorem b_eq : den prog ann 87 (.code b :: K) s = den prog ann 87 (.code r0 :: .code r1 :: .code k0 :: .code r14 :: .code .ret :: K) s := den_flat hf (l := [r0, r1, k0, r14, .ret]) (by kernel_rfl) K s
theorem r0_eq : den prog ann 87 (.code r0 :: K) s = mreg prog ann 87 none [] none [] [⟨some 4, none, .w false none fun s => newPtr s.m [.int .i64 0, .int .i64 0, .int .i64 0, .int .i64 0, .int .i64 0, .int .i64 0]⟩] K s := (den_reg hf _ K s).trans (by kernel_rfl)
theorem r1_eq : den prog ann 87 (.code r1 :: K) s = mreg prog ann 87 none [] none [] [qC 9 1] K s := (den_reg hf _ K s).trans (by kernel_rfl)
theorem k0_eq : den prog ann 87 (.code k0 :: K) s = den prog ann 87 (.code r2 :: .code i0 :: .inBlock 0 :: K) s := den_blk hf (b := blkOf k0) (l := [r2, i0]) (by kernel_rfl) (by kernel_rfl) K s
theorem r2_eq : den prog ann 87 (.code r2 :: K) s = mreg prog ann 87 none [] none [] [qA 10 (tyA 139 (.agg [.int .i64 0, .int .i64 0, .int .i64 0, .int .i64 0, .int .i64 0, .int .i64 0])) 9,qF 11 fun s => extA (s.get 10) 1,qF 12 fun s => extA (s.get 10) 0] K s := (den_reg hf _ K s).trans (by kernel_rfl)
theorem i0_eq : den prog ann 87 (.code i0 :: K) s = ifV prog ann 87 11 i0t i0e K s (s.get 11) := den_if hf (by kernel_rfl) K s
theorem i0t_eq : den prog ann 87 (.code i0t :: K) s = den prog ann 87 (.code r3 :: .code r4 :: .code .ret :: K) s := den_flat hf (l := [r3, r4, .ret]) (by kernel_rfl) K s
theorem r3_eq : den prog ann 87 (.code r3 :: K) s = mreg prog ann 87 none [] none [5] [⟨some 5, none, .w false none fun s => newPtr s.m [.int .i64 0, .int .i64 0, .int .i64 0, .int .i64 0, .int .i64 0, .int .i64 0]⟩,⟨none, none, .w false none fun s => stA true 6 s.m (s.get 5) (s.get 12)⟩] K s := (den_reg hf _ K s).trans (by kernel_rfl)
theorem r4_eq : den prog ann 87 (.code r4 :: K) s = mreg prog ann 87 none [] none [] [qA 13 (loadF true 6) 5,⟨none, none, .w false none fun s => stA true 6 s.m (s.get 4) (s.get 13)⟩] K s := (den_reg hf _ K s).trans (by kernel_rfl)
theorem i0e_eq : den prog ann 87 (.code i0e :: K) s = den prog ann 87 (.code r5 :: .code i1 :: K) s := den_flat hf (l := [r5, i1]) (by kernel_rfl) K s
theorem r5_eq : den prog ann 87 (.code r5 :: K) s = mreg prog ann 87 none [] none [] [qA 14 (tyA 142 (.agg [])) 9,qF 15 fun s => extA (s.get 14) 1,qF 16 fun s => extA (s.get 14) 0] K s := (den_reg hf _ K s).trans (by kernel_rfl)
theorem i1_eq : den prog ann 87 (.code i1 :: K) s = ifV prog ann 87 15 i1t i1e K s (s.get 15) := den_if hf (by kernel_rfl) K s
theorem i1t_eq : den prog ann 87 (.code i1t :: K) s = den prog ann 87 (.code r6 :: .code r7 :: .code r8 :: .code k1 :: .code r13 :: .code .ret :: K) s := den_flat hf (l := [r6, r7, r8, k1, r13, .ret]) (by kernel_rfl) K s
theorem r6_eq : den prog ann 87 (.code r6 :: K) s = mreg prog ann 87 none [] none [6] [⟨some 6, none, .w false none fun s => newPtr s.m []⟩,⟨none, none, .w false none fun s => stA true 0 s.m (s.get 6) (s.get 16)⟩] K s := (den_reg hf _ K s).trans (by kernel_rfl)
theorem r7_eq : den prog ann 87 (.code r7 :: K) s = mreg prog ann 87 none [] none [] [⟨some 7, none, .w false none fun s => newPtr s.m [.int .i64 0, .int .i64 0, .int .i64 0, .int .i64 0, .int .i64 0, .int .i64 0]⟩] K s := (den_reg hf _ K s).trans (by kernel_rfl)
theorem r8_eq : den prog ann 87 (.code r8 :: K) s = mreg prog ann 87 none [] none [] [qC 17 0,qA 18 nilA 17,qA 19 (fieldA 0) 18,qA 20 (fieldA 0) 19,qA 21 (loadF false 1) 20,qA 22 lenSl 21,qF 23 fun s => some (.int .i64 0)] K s := (den_reg hf _ K s).trans (by kernel_rfl)
theorem k1_eq (K : List Item) (t : List (Nat × AV)) (m : Mem) : den prog ann 87 (.code k1 :: K) ⟨t, 34, m⟩ = L1 (get t 4) (get t 6) (get t 7) (get t 22) (get t 23) m K := den_loop_enter hf (b := l1) (id := 9) (l := [4, 6, 7, 22, 23]) (by kernel_rfl) (by kernel_rfl) (by kernel_rfl) K _
theorem l1_eq (K : List Item) (t : List (Nat × AV)) (m : Mem) : den prog ann 87 (.inLoop l1 :: .inBlock 1 :: K) ⟨t, 34, m⟩ = L1 (get t 4) (get t 6) (get t 7) (get t 22) (get t 23) m K := den_loop_again hf (id := 9) (l := [4, 6, 7, 22, 23]) (by kernel_rfl) (by kernel_rfl) (.inBlock 1 :: K) _
theorem L1_eq (x4 x6 x7 x22 x23 : AV) (m : Mem) (K : List Item) : L1 x4 x6 x7 x22 x23 m K = den prog ann 87 (.code r9 :: .code i2 :: .code k2 :: .code r12 :: .inLoop l1 :: .inBlock 1 :: K) ⟨[(4, x4), (6, x6), (7, x7), (22, x22), (23, x23)], 34, m⟩ := den_flat hf (l := [r9, i2, k2, r12]) (by kernel_rfl) _ _
theorem r9_eq : den prog ann 87 (.code r9 :: K) s = mreg prog ann 87 (some [4, 6, 7, 22, 23]) [] none [] [qB 24 (binA prog .lss 3) 23 22] K s := (den_reg hf _ K s).trans (by kernel_rfl)
theorem i2_eq : den prog ann 87 (.code i2 :: K) s = ifV prog ann 87 24 i2t i2e K s (s.get 24) := den_if hf (by kernel_rfl) K s
theorem i2t_eq : den prog ann 87 (.code i2t :: K) s = den prog ann 87 (K) s := den_flat hf (l := []) (by kernel_rfl) K s
theorem i2e_eq : den prog ann 87 (.code i2e :: K) s = den prog ann 87 (.code (.exit 1) :: K) s := den_flat hf (l := [(.exit 1)]) (by kernel_rfl) K s
theorem k2_eq : den prog ann 87 (.code k2 :: K) s = den prog ann 87 (.code r10 :: .code r11 :: .inBlock 2 :: K) s := den_blk hf (b := blkOf k2) (l := [r10, r11]) (by kernel_rfl) (by kernel_rfl) K s
theorem r10_eq : den prog ann 87 (.code r10 :: K) s = mreg prog ann 87 none [] none [] [qC 25 23,qC 8 25] K s := (den_reg hf _ K s).trans (by kernel_rfl)
theorem r11_eq : den prog ann 87 (.code r11 :: K) s = mreg prog ann 87 none [] none [] [qC 26 8,qA 27 (loadF true 0) 6,qC 28 8,⟨some 29, none, .c 0 (fun s => (.fn 95 [] [])) fun s => [(s.get 27), (s.get 28)]⟩,qB 30 (idxArr 6 1) 7 26,⟨none, none, .w false none fun s => stA false 1 s.m (s.get 30) (s.get 29)⟩] K s := (den_reg hf _ K s).trans (by kernel_rfl)
theorem r12_eq : den prog ann 87 (.code r12 :: K) s = mreg prog ann 87 (some [4, 6, 7, 22, 23]) [] none [] [qF 31 fun s => binA prog .add 3 (s.get 23) (.int .i64 1),qC 23 31] K s := (den_reg hf _ K s).trans (by kernel_rfl)
theorem r13_eq : den prog ann 87 (.code r13 :: K) s = mreg prog ann 87 (some [4, 7]) [] none [] [qF 32 fun s => loadA true 6 s.m (s.get 7),⟨none, none, .w false none fun s => stA true 6 s.m (s.get 4) (s.get 32)⟩] K s := (den_reg hf _ K s).trans (by kernel_rfl)
theorem i1e_eq : den prog ann 87 (.code i1e :: K) s = den prog ann 87 (K) s := den_flat hf (l := []) (by kernel_rfl) K s
theorem r14_eq : den prog ann 87 (.code r14 :: K) s = mreg prog ann 87 (some [4]) [] none [] [qF 33 fun s => bldA (plcA 1) [.int .i64 0, .int .i64 0, .int .i64 0, .int .i64 0, .int .i64 0, .int .i64 0] [],⟨none, none, .w false none fun s => stA true 6 s.m (s.get 4) (s.get 33)⟩] K s := (den_reg hf _ K s).trans (by kernel_rfl)
theorem ret_eq : den prog ann 87 (.code .ret :: K) s = finM true [fun s => loadA true 6 s.m (s.get 4)] s := (den_ret hf K s).trans (by kernel_rfl)
theorem nil_eq (s : St) : den prog ann 87 [] s = finM true [fun s => loadA true 6 s.m (s.get 4)] s := (den_nil hf s).trans (by kernel_rfl)
theorem inBlock_eq (id : Nat) (K : List Item) (s : St) : den prog ann 87 (.inBlock id :: K) s = den prog ann 87 K s := den_inBlock hf id K s
theorem exit_eq (id : Nat) (K : List Item) (s : St) : den prog ann 87 (.code (.exit id) :: K) s = exitV prog ann 87 (exitTo id K) s := den_exitV hf id K s
theorem call_eq (v0 v1 : AV) (m : Mem) (h : closedL [v0, v1] = true) : denC prog ann 87 [v0, v1] m = (den prog ann 87 [.code b] ⟨[(0, v0), (1, v1)], 34, Mem.empty⟩).bind fun r => some (r.1, m) := (denC_pure hf (b := b) (by kernel_rfl) (by kernel_rfl) (by kernel_rfl) h m).trans (by kernel_rfl)
theorem pure_eq : (ann 87).pure = true := by kernel_rfl
attribute [simp] b_eq r0_eq r1_eq k0_eq r2_eq i0_eq i0t_eq r3_eq r4_eq i0e_eq r5_eq i1_eq i1t_eq r6_eq r7_eq r8_eq k1_eq l1_eq r9_eq i2_eq i2t_eq i2e_eq k2_eq r10_eq r11_eq r12_eq r13_eq i1e_eq r14_eq ret_eq nil_eq inBlock_eq exit_eq pure_eq
end
end brand_monoid_table
namespace brand_monoid_does
noncomputable section
variable (K : List Item) (s : St)
def b : Code := (Try.f88.body).getD .skip
theorem hf : prog.funcs[88]? = some Try.f88 := by kernel_rfl
def r0 := findReg b 0
def r1 := findReg b 1
def i0 := findCond b 0
def i0t := thenOf i0
def i0e := elseOf i0
def r2 := findReg b 2
def r3 := findReg b 3
def r4 := findReg b 4
def k0 := findBlk b 0
def l0 := loopOf k0
def L0 (x0 x1 x5 x16 x17 : AV) (m : Mem) (K : List Item) : Option Res := den prog ann 88 (.code l0 :: .inLoop l0 :: .inBlock 0 :: K) ⟨[(0, x0), (1, x1), (5, x5), (16, x16), (17, x17)], 32, m⟩
def r5 := findReg b 5
def i1 := findCond b 1
def i1t := thenOf i1
def i1e := elseOf i1
def k1 := findBlk b 1
def r6 := findReg b 6
def r7 := findReg b 7
def r8 := findReg b 8
def r9 := findReg b 9
theorem b_eq : den prog ann 88 (.code b :: K) s = den prog ann 88 (.code r0 :: .code r1 :: .code i0 :: .code r3 :: .code r4 :: .code k0 :: .code r9 :: .code .ret :: K) s := den_flat hf (l := [r0, r1, i0, r3, r4, k0, r9, .ret]) (by kernel_rfl) K s
theorem r0_eq : den prog ann 88 (.code r0 :: K) s = mreg prog ann 88 none [] none [] [qF 4 fun s => some (.nili)] K s := (den_reg hf _ K s).trans (by kernel_rfl)
theorem r1_eq : den prog ann 88 (.code r1 :: K) s = mreg prog ann 88 none [] none [] [qC 7 1,qF 8 fun s => binA prog .eql 9 (s.get 7) (.str [])] K s := (den_reg hf _ K s).trans (by kernel_rfl)
theorem i0_eq : den prog ann 88 (.code i0 :: K) s = ifV prog ann 88 8 i0t i0e K s (s.get 8) := den_if hf (by kernel_rfl) K s
theorem i0t_eq : den prog ann 88 (.code i0t :: K) s = den prog ann 88 (.code r2 :: .code .ret :: K) s := den_flat hf (l := [r2, .ret]) (by kernel_rfl) K s
theorem r2_eq : den prog ann 88 (.code r2 :: K) s = mreg prog ann 88 none [] none [] [qF 9 fun s => bldA (plc []) [] [],qF 10 fun s => some (.iface 142 (s.get 9)),qC 4 10] K s := (den_reg hf _ K s).trans (by kernel_rfl)
theorem i0e_eq : den prog ann 88 (.code i0e :: K) s = den prog ann 88 (K) s := den_flat hf (l := []) (by kernel_rfl) K s
theorem r3_eq : den prog ann 88 (.code r3 :: K) s = mreg prog ann 88 none [] none [] [⟨some 5, none, .w false none fun s => newPtr s.m [.int .i64 0, .int .i64 0, .int .i64 0, .int .i64 0, .int .i64 0, .int .i64 0]⟩] K s := (den_reg hf _ K s).trans (by kernel_rfl)
theorem r4_eq : den prog ann 88 (.code r4 :: K) s = mreg prog ann 88 none [] none [] [qC 11 0,qA 12 nilA 11,qA 13 (fieldA 0) 12,qA 14 (fieldA 0) 13,qA 15 (loadF false 1) 14,qA 16 lenSl 15,qF 17 fun s => some (.int .i64 0)] K s := (den_reg hf _ K s).trans (by kernel_rfl)
theorem k0_eq (K : List Item) (t : List (Nat × AV)) (m : Mem) : den prog ann 88 (.code k0 :: K) ⟨t, 32, m⟩ = L0 (get t 0) (get t 1) (get t 5) (get t 16) (get t 17) m K := den_loop_enter hf (b := l0) (id := 5) (l := [0, 1, 5, 16, 17]) (by kernel_rfl) (by kernel_rfl) (by kernel_rfl) K _
theorem l0_eq (K : List Item) (t : List (Nat × AV)) (m : Mem) : den prog ann 88 (.inLoop l0 :: .inBlock 0 :: K) ⟨t, 32, m⟩ = L0 (get t 0) (get t 1) (get t 5) (get t 16) (get t 17) m K := den_loop_again hf (id := 5) (l := [0, 1, 5, 16, 17]) (by kernel_rfl) (by kernel_rfl) (.inBlock 0 :: K) _
theorem L0_eq (x0 x1 x5 x16 x17 : AV) (m : Mem) (K : List Item) : L0 x0 x1 x5 x16 x17 m K = den prog ann 88 (.code r5 :: .code i1 :: .code k1 :: .code r8 :: .inLoop l0 :: .inBlock 0 :: K) ⟨[(0, x0), (1, x1), (5, x5), (16, x16), (17, x17)], 32, m⟩ := den_flat hf (l := [r5, i1, k1, r8]) (by kernel_rfl) _ _
theorem r5_eq : den prog ann 88 (.code r5 :: K) s = mreg prog ann 88 (some [0, 1, 5, 16, 17]) [] none [] [qB 18 (binA prog .lss 3) 17 16] K s := (den_reg hf _ K s).trans (by kernel_rfl)
theorem i1_eq : den prog ann 88 (.code i1 :: K) s = ifV prog ann 88 18 i1t i1e K s (s.get 18) := den_if hf (by kernel_rfl) K s
theorem i1t_eq : den prog ann 88 (.code i1t :: K) s = den prog ann 88 (K) s := den_flat hf (l := []) (by kernel_rfl) K s
theorem i1e_eq : den prog ann 88 (.code i1e :: K) s = den prog ann 88 (.code (.exit 0) :: K) s := den_flat hf (l := [(.exit 0)]) (by kernel_rfl) K s
theorem k1_eq : den prog ann 88 (.code k1 :: K) s = den prog ann 88 (.code r6 :: .code r7 :: .inBlock 1 :: K) s := den_blk hf (b := blkOf k1) (l := [r6, r7]) (by kernel_rfl) (by kernel_rfl) K s
theorem r6_eq : den prog ann 88 (.code r6 :: K) s = mreg prog ann 88 none [] none [] [qC 19 17,qC 6 19] K s := (den_reg hf _ K s).trans (by kernel_rfl)
theorem r7_eq : den prog ann 88 (.code r7 :: K) s = mreg prog ann 88 none [] none [] [qC 20 6,qC 21 0,qA 22 nilA 21,qA 23 (fieldA 0) 22,qA 24 (loadF true 2) 23,qC 25 6,qC 26 1,⟨some 27, none, .c 0 (fun s => (.fn 69 [] [])) fun s => [(s.get 24), (s.get 25), (s.get 26)]⟩,qB 28 (idxArr 6 1) 5 20,⟨none, none, .w false none fun s => stA false 1 s.m (s.get 28) (s.get 27)⟩] K s := (den_reg hf _ K s).trans (by kernel_rfl)
theorem r8_eq : den prog ann 88 (.code r8 :: K) s = mreg prog ann 88 (some [0, 1, 5, 16, 17]) [] none [] [qF 29 fun s => binA prog .add 3 (s.get 17) (.int .i64 1),qC 17 29] K s := (den_reg hf _ K s).trans (by kernel_rfl)
theorem r9_eq : den prog ann 88 (.code r9 :: K) s = mreg prog ann 88 (some [5]) [] none [] [qF 30 fun s => loadA true 6 s.m (s.get 5),qF 31 fun s => some (.iface 139 (s.get 30)),qC 4 31] K s := (den_reg hf _ K s).trans (by kernel_rfl)
theorem ret_eq : den prog ann 88 (.code .ret :: K) s = finM true [fun s => some (s.get 4)] s := (den_ret hf K s).trans (by kernel_rfl)
theorem nil_eq (s : St) : den prog ann 88 [] s = finM true [fun s => some (s.get 4)] s := (den_nil hf s).trans (by kernel_rfl)
theorem inBlock_eq (id : Nat) (K : List Item) (s : St) : den prog ann 88 (.inBlock id :: K) s = den prog ann 88 K s := den_inBlock hf id K s
theorem exit_eq (id : Nat) (K : List Item) (s : St) : den prog ann 88 (.code (.exit id) :: K) s = exitV prog ann 88 (exitTo id K) s := den_exitV hf id K s
theorem call_eq (v0 v1 : AV) (m : Mem) (h : closedL [v0, v1] = true) : denC prog ann 88 [v0, v1] m = (den prog ann 88 [.code b] ⟨[(0, v0), (1, v1)], 32, Mem.empty⟩).bind fun r => some (r.1, m) := (denC_pure hf (b := b) (by kernel_rfl) (by kernel_rfl) (by kernel_rfl) h m).trans (by kernel_rfl)
theorem pure_eq : (ann 88).pure = true := by kernel_rfl
attribute [simp] b_eq r0_eq r1_eq i0_eq i0t_eq r2_eq i0e_eq r3_eq r4_eq k0_eq l0_eq r5_eq i1_eq i1t_eq i1e_eq k1_eq r6_eq r7_eq r8_eq r9_eq ret_eq nil_eq inBlock_eq exit_eq pure_eq
end
end brand_monoid_does
namespace brand_still_to
noncomputable section
variable (K : List Item) (s : St)
def b : Code := (Try.f95.body).getD .skip
theorem hf : prog.funcs[95]? = some Try.f95 := by kernel_rfl
def r0 := findReg b 0
def r1 := findReg b 1
theorem b_eq : den prog ann 95 (.code b :: K) s = den prog ann 95 (.code r0 :: .code r1 :: .code .ret :: K) s := den_flat hf (l := [r0, r1, .ret]) (by kernel_rfl) K s
theorem r0_eq : den prog ann 95 (.code r0 :: K) s = mreg prog ann 95 none [] none [] [qA 2 frozenPtr 0,qF 4 fun s => some (.int .i64 0)] K s := (den_reg hf _ K s).trans (by kernel_rfl)
theorem r1_eq : den prog ann 95 (.code r1 :: K) s = mreg prog ann 95 none [] none [] [qC 5 1,qC 4 5] K s := (den_reg hf _ K s).trans (by kernel_rfl)
theorem ret_eq : den prog ann 95 (.code .ret :: K) s = finM true [fun s => some (s.get 4)] s := (den_ret hf K s).trans (by kernel_rfl)
theorem nil_eq (s : St) : den prog ann 95 [] s = finM true [fun s => some (s.get 4)] s := (den_nil hf s).trans (by kernel_rfl)
theorem inBlock_eq (id : Nat) (K : List Item) (s : St) : den prog ann 95 (.inBlock id :: K) s = den prog ann 95 K s := den_inBlock hf id K s
theorem exit_eq (id : Nat) (K : List Item) (s : St) : den prog ann 95 (.code (.exit id) :: K) s = exitV prog ann 95 (exitTo id K) s := den_exitV hf id K s
theorem call_eq (v0 v1 : AV) (m : Mem) (h : closedL [v0, v1] = true) : denC prog ann 95 [v0, v1] m = (den prog ann 95 [.code b] ⟨[(0, v0), (1, v1)], 6, Mem.empty⟩).bind fun r => some (r.1, m) := (denC_pure hf (b := b) (by kernel_rfl) (by kernel_rfl) (by kernel_rfl) h m).trans (by kernel_rfl)
theorem pure_eq : (ann 95).pure = true := by kernel_rfl
attribute [simp] b_eq r0_eq r1_eq ret_eq nil_eq inBlock_eq exit_eq pure_eq
end
end brand_still_to
end Go.Proofs.Ythnpflkpjimkfaa

/-
  WHAT WORDS DO: moves of states, as keys. Conditions: none.
-/
namespace Go.Proofs.Ythnpflkpjimkfaa
open Go.AM
open Go.Proofs.Try (prog)
set_option linter.all false
set_option maxRecDepth 100000
set_option maxHeartbeats 8000000
theorem IsRows.deep {v : AV} {ps : List AV} {rows : List (List Int)} (h : IsRows v ps rows) (hp : Nat → Option AObj) (d : Nat) : AM.deep hp (d + 1) v = some v := by rcases h.val with ⟨rfl, _⟩ | ⟨_, rfl⟩ <;> rfl
def mvF (n : Nat) (f : Nat → Nat) (c : Nat) : List Nat := (List.range 6).map fun s => if s < c then f s else 0
def mv6 (rows : List (List Int)) (w : List UInt8) : List Nat := mvF rows.length (fun s => goL rows w s) rows.length
@[simp] theorem mv6_len (rows : List (List Int)) (w : List UInt8) : (mv6 rows w).length = 6 := by simp [mv6, mvF]
def nxM (rows : List (List Int)) (t : List Nat) (a : Nat) : List Nat := mvF rows.length (fun s => nx rows (t.getD s 0) a) rows.length
def encM (t : List Nat) : AV := .agg (t.map fun x => .int .i64 (x : Nat))
@[simp] theorem mvF_len (n : Nat) (f : Nat → Nat) (c : Nat) : (mvF n f c).length = 6 := by simp [mvF]
theorem mvF_at {n : Nat} {f : Nat → Nat} {c s : Nat} (h : s < 6) (hc : s < c) : (mvF n f c).getD s 0 = f s := by
  simp [mvF, List.getD_eq_getElem?_getD, h, hc]
theorem mvF_set {n : Nat} {f : Nat → Nat} {c : Nat} (h : c < 6) : ((mvF n f c).map fun x => AV.int .i64 (x : Nat)).set c (.int .i64 (f c : Nat)) = (mvF n f (c + 1)).map fun x => AV.int .i64 (x : Nat) := by
  refine List.ext_getElem (by simp) fun i h1 h2 => ?_
  have hi : i < 6 := by simpa using h2
  rw [List.getElem_set]
  by_cases e : c = i
  · subst e; simp [mvF]
  · simp only [if_neg e, List.getElem_map, mvF, List.getElem_range]
    by_cases q : i < c
    · rw [if_pos q, if_pos (by omega)]
    · rw [if_neg q, if_neg (by omega)]
theorem goL_snoc (rows : List (List Int)) (c : UInt8) : ∀ (w : List UInt8) (s : Nat), goL rows (w ++ [c]) s = nx rows (goL rows w s) (c.toNat - 97)
  | [], s => rfl
  | b :: w, s => by rw [List.cons_append, goL, goL_snoc rows c w, goL]
theorem ltr_sub {a : Nat} (h : a < 3) : (UInt8.ofNat (97 + a)).toNat - 97 = a := by
  have : a = 0 ∨ a = 1 ∨ a = 2 := by omega
  rcases this with rfl | rfl | rfl <;> rfl
theorem goL_ltr (rows : List (List Int)) (w : List UInt8) {a : Nat} (h : a < 3) (s : Nat) : goL rows (w ++ ltr a) s = nx rows (goL rows w s) a := by rw [ltr, goL_snoc, ltr_sub h]
theorem mv6_ltr (rows : List (List Int)) (n6 : rows.length ≤ 6) (w : List UInt8) {a : Nat} (h : a < 3) : mv6 rows (extL w a) = nxM rows (mv6 rows w) a := by
  rw [mv6, nxM, mvF, mvF]
  refine List.map_congr_left fun s hs => ?_
  have hs6 : s < 6 := by simpa using hs
  by_cases q : s < rows.length
  · rw [if_pos q, if_pos q, extL, goL_ltr rows w h, mv6, mvF_at hs6 q]
  · rw [if_neg q, if_neg q]
theorem fl139 : flatT prog 139 = some [3, 3, 3, 3, 3, 3] := by kernel_rfl
theorem eqCs_nat : ∀ (a b : List Nat) (n : Nat), a.length = n → b.length = n → eqCs prog (List.replicate n 3) (a.map fun x => .int .i64 (x : Nat)) (b.map fun x => .int .i64 (x : Nat)) = some (decide (a = b))
  | [], [], 0, _, _ => rfl
  | [], _ :: _, 0, _, h => by simp at h
  | _ :: _, _, 0, h, _ => by simp at h
  | [], _, n + 1, h, _ => by simp at h
  | _ :: _, [], n + 1, _, h => by simp at h
  | x :: a, y :: b, n + 1, h1, h2 => by
    have ih := eqCs_nat a b n (by simpa using h1) (by simpa using h2)
    rw [List.replicate_succ, List.map_cons, List.map_cons, eqCs, sc3, sc3]
    by_cases e : x = y
    · subst e
      simp [eqSc, ih]
    · have : ((x : Int) == (y : Int)) = false := by rw [beq_eq_false_iff_ne]; omega
      simp [eqSc, this, e]
theorem scL_nat : ∀ (a : List Nat) (n : Nat), a.length = n → scL prog (List.replicate n 3) (a.map fun x => .int .i64 (x : Nat)) = true
  | [], 0, _ => rfl
  | _ :: _, 0, h => by simp at h
  | [], n + 1, h => by simp at h
  | x :: a, n + 1, h => by
    have ih := scL_nat a n (by simpa using h)
    rw [List.replicate_succ, List.map_cons, scL, sc3, ih]; rfl
theorem keysM : Keys 139 encM (fun t => t.length = 6) := by
  refine ⟨fun a b ha hb => ?_, fun a ha => ?_⟩
  · have := eqCs_nat a b 6 ha hb
    simp only [keyEq, encM, fl139, Option.bind_some, List.length_map, ha, hb]
    exact this
  · have := scL_nat a 6 ha
    simp only [keyT, encM, fl139, List.length_map, ha]
    exact this
theorem encM_one (t : List Nat) : oneL (t.map fun x => AV.int .i64 (x : Nat)) = true := by
  induction t with
  | nil => rfl
  | cons a t ih => simp [oneL, AV.one, ih]
theorem encM_closed (t : List Nat) : closedL (t.map fun x => AV.int .i64 (x : Nat)) = true := by
  induction t with
  | nil => rfl
  | cons a t ih => simp [closedL, AV.closed, ih]
theorem encM_mapO (h : Nat → Option AObj) (d : Nat) (t : List Nat) : mapO (AM.deep h (d + 1)) (t.map fun x => AV.int .i64 (x : Nat)) = some (t.map fun x => AV.int .i64 (x : Nat)) := mapO_same _ (fun x hx => by
  simp only [List.mem_map] at hx
  obtain ⟨b, _, rfl⟩ := hx
  rfl)
def dsV (rows : List (List Int)) (w : List UInt8) : AV := if w = [] then .iface 142 (.agg []) else .iface 139 (encM (mv6 rows w))
theorem deep_encM (h : Nat → Option AObj) (d t : Nat) (x : List Nat) : AM.deep h (d + 1) (.iface t (.agg (x.map fun x => AV.int .i64 (x : Nat)))) = some (.iface t (.agg (x.map fun x => AV.int .i64 (x : Nat)))) := by
  simp [AM.deep, AV.closed, encM_closed]
theorem does_loop {nv gv wv ov : AV} {ps : List AV} {rows : List (List Int)} {good : List Bool} {k : Nat} (hn : IsRows nv ps rows) (hg : IsB gv good) (v : VB rows good k) {w : List UInt8} (hs : w.length ≤ 1000000) (hl : letF k w w.length 0 = true) : ∀ (c s : Nat) (nx0 : Nat) (h : Nat → Option AObj), s + c = rows.length → h 0 = some (.cells ((mvF rows.length (fun s => goL rows w s) s).map fun x => AV.int .i64 (x : Nat))) →
    brand_monoid_does.L0 (.fptr [nv, gv, wv, ov]) (.str w) (.ptr 0 0 6) (.int .i64 rows.length) (.int .i64 s) ⟨h, nx0⟩ [.code brand_monoid_does.r9, .code .ret] = some (.iface 139 (encM (mv6 rows w)), Mem.empty) := by
  intro c
  have n6 := v.n6
  induction c with
  | zero =>
    intro s nx0 h h1 h0
    have e : s = rows.length := by omega
    subst e
    rw [brand_monoid_does.L0_eq]
    have tk : ((mvF rows.length (fun s => goL rows w s) rows.length).map fun x => AV.int .i64 (x : Nat)).take 6 = (mvF rows.length (fun s => goL rows w s) rows.length).map fun x => AV.int .i64 (x : Nat) := List.take_of_length_le (by simp)
    simp [h0, encM, mv6, tk, deep_encM]
    done
  | succ c ih =>
    intro s nx0 h h1 h0
    have hs' : s < rows.length := by omega
    have hws : IntKind.wrap .i64 ((s : Int) + 1) = (s : Int) + 1 := wrap_id (by omega) (by omega)
    have ha := fun m => after_spec hn hg v hs hl hs' m
    have st := ih (s + 1) nx0 (upd h 0 (some (.cells ((mvF rows.length (fun s => goL rows w s) (s + 1)).map fun x => AV.int .i64 (x : Nat))))) (by omega) (by simp)
    simp only [Int.natCast_add, Int.cast_ofNat_Int] at st
    have hset := mvF_set (n := rows.length) (f := fun s => goL rows w s) (c := s) (by omega)
    rw [brand_monoid_does.L0_eq]
    simp [hs', hn.one, hg.one, hn.closed, hg.closed, ha, h0, hset, hws, st, show s < 6 by omega]
    done
theorem mvF_zero (n : Nat) (f : Nat → Nat) : (mvF n f 0).map (fun x => AV.int .i64 (x : Nat)) = [.int .i64 0, .int .i64 0, .int .i64 0, .int .i64 0, .int .i64 0, .int .i64 0] := by
  simp [mvF, List.range_succ]
theorem does_spec {nv gv wv ov : AV} {ps : List AV} {rows : List (List Int)} {good : List Bool} {k : Nat} (hn : IsRows nv ps rows) (hg : IsB gv good) (v : VB rows good k) (hw : wv.closed = true) (ho : ov.closed = true) {w : List UInt8} (hs : w.length ≤ 1000000) (hl : letF k w w.length 0 = true) (m : Mem) :
    denC prog ann 88 [.fptr [nv, gv, wv, ov], .str w] m = some (dsV rows w, m) := by
  rw [brand_monoid_does.call_eq _ _ _ (by simp [hn.closed, hg.closed, hw, ho])]
  unfold dsV
  by_cases c : w = []
  · subst c
    simp [AM.deep, AV.closed, closedL]
    done
  · have lp := does_loop (wv := wv) (ov := ov) hn hg v hs hl rows.length 0 1 (upd Mem.empty.h 0 (some (.cells [.int .i64 0, .int .i64 0, .int .i64 0, .int .i64 0, .int .i64 0, .int .i64 0]))) (by omega) (by rw [mvF_zero]; simp)
    simp only [Int.ofNat_zero, Int.cast_ofNat_Int] at lp
    simp [c, hn.len, lp]
    done
theorem still_spec (s : Int) (m : Mem) : denC prog ann 95 [.agg [], .int .i64 s] m = some (.int .i64 s, m) := by
  rw [brand_still_to.call_eq _ _ _ (by simp)]
  simp
  done
theorem table_loop {n : Nat} (n6 : n ≤ 6) {K : List Item} : ∀ (c s : Nat) (nx0 : Nat) (h : Nat → Option AObj) (z : Nat) (zs : List AV), s + c = n → z ≠ 2 → zs.length = 6 → h z = some (.cells zs) → h 2 = some (.cells ((mvF n (fun s => s) s).map fun x => AV.int .i64 (x : Nat))) →
    brand_monoid_table.L1 (.ptr z 0 6) (.fptr []) (.ptr 2 0 6) (.int .i64 n) (.int .i64 s) ⟨h, nx0⟩ (.code brand_monoid_table.r13 :: .code .ret :: K) = some (encM (mvF n (fun s => s) n), Mem.empty) := by
  intro c
  induction c with
  | zero =>
    intro s nx0 h z zs h1 hz hzl hzs h0
    have e : s = n := by omega
    subst e
    have tk : ((mvF s (fun s => s) s).map fun x => AV.int .i64 (x : Nat)).take 6 = (mvF s (fun s => s) s).map fun x => AV.int .i64 (x : Nat) := List.take_of_length_le (by simp)
    rw [brand_monoid_table.L1_eq]
    simp [h0, hzs, hzl, encM, tk, encM_one, encM_mapO]
    done
  | succ c ih =>
    intro s nx0 h z zs h1 hz hzl hzs h0
    have hs' : s < n := by omega
    have hws : IntKind.wrap .i64 ((s : Int) + 1) = (s : Int) + 1 := wrap_id (by omega) (by omega)
    have st := ih (s + 1) nx0 (upd h 2 (some (.cells ((mvF n (fun s => s) (s + 1)).map fun x => AV.int .i64 (x : Nat))))) z zs (by omega) hz hzl (by rw [updNe hz]; exact hzs) (by simp)
    simp only [Int.natCast_add, Int.cast_ofNat_Int] at st
    have hset := mvF_set (n := n) (f := fun s => s) (c := s) (by omega)
    rw [brand_monoid_table.L1_eq]
    simp [hs', still_spec, h0, hset, hws, st, show s < 6 by omega]
    done
theorem mv6_nil (rows : List (List Int)) : mv6 rows [] = mvF rows.length (fun s => s) rows.length := rfl
theorem table_spec {nv gv wv ov : AV} {ps : List AV} {rows : List (List Int)} {good : List Bool} {k : Nat} (hn : IsRows nv ps rows) (hg : IsB gv good) (v : VB rows good k) (hw : wv.closed = true) (ho : ov.closed = true) (w : List UInt8) (m : Mem) :
    denC prog ann 87 [.fptr [nv, gv, wv, ov], dsV rows w] m = some (encM (mv6 rows w), m) := by
  have n6 := v.n6
  have hcl : (dsV rows w).closed = true := by
    unfold dsV encM
    split
    · rfl
    · simp [AV.closed, encM_closed]
  rw [brand_monoid_table.call_eq _ _ _ (by simp [hn.closed, hg.closed, hw, ho, hcl])]
  unfold dsV
  by_cases c : w = []
  · subst c
    have st := table_loop n6 (K := [.inBlock 0, .code brand_monoid_table.r14, .code .ret]) rows.length 0 3 (upd (upd (upd (upd Mem.empty.h 0 (some (.cells [.int .i64 0, .int .i64 0, .int .i64 0, .int .i64 0, .int .i64 0, .int .i64 0]))) 1 (some (.cells []))) 1 none) 2 (some (.cells [.int .i64 0, .int .i64 0, .int .i64 0, .int .i64 0, .int .i64 0, .int .i64 0]))) 0 _ (by omega) (by omega) rfl (by simp; rfl) (by rw [mvF_zero]; simp)
    simp only [Int.ofNat_zero, Int.cast_ofNat_Int, ← mv6_nil] at st
    simp [hn.len, tyA]
    simp at st
    rw [st]
    rfl
  · have tk : ((mv6 rows w).map fun x => AV.int .i64 (x : Nat)).take 6 = (mv6 rows w).map fun x => AV.int .i64 (x : Nat) := List.take_of_length_le (by simp)
    simp [c, tyA, encM, encM_one, encM_mapO, encM_closed, tk]
    done
end Go.Proofs.Ythnpflkpjimkfaa
