/-
  ALL ELEMENTS OF A MONOID: the law of the search, and the program's memory. Conditions: none.
-/
import Derived.Test.YthnpflkpjimkfaaK02
import Derived.Test.YthnpflkpjimkfaaKAmH
set_option linter.all false
namespace Go.Proofs.Ythnpflkpjimkfaa
open Go.AM
open Go.Proofs.Try (prog)
set_option linter.all false
set_option maxRecDepth 100000
set_option maxHeartbeats 8000000
def okW (k : Nat) (w : List UInt8) : Prop := ∀ c ∈ w, 97 ≤ c.toNat ∧ c.toNat - 97 < k
theorem letF_iff (k : Nat) (s : List UInt8) : letF k s s.length 0 = true ↔ okW k s := by
  have hb : ∀ i (h : i < s.length), byt s i = s[i].toNat := fun i h => by simp [byt, h]
  simp only [letF, List.all_eq_true, List.mem_range'_1, letB, Bool.and_eq_true, decide_eq_true_eq, okW]
  constructor
  · intro h c hc
    obtain ⟨i, hi, rfl⟩ := List.getElem_of_mem hc
    have := h i ⟨by omega, by omega⟩
    rwa [hb i hi] at this
  · intro h i hi
    have hi' : i < s.length := by omega
    rw [hb i hi']
    exact h _ (List.getElem_mem hi')
theorem okW_ext {k a : Nat} {w : List UInt8} (h : okW k w) (ha : a < k) (hk : k ≤ 3) : okW k (extL w a) := by
  intro c hc
  rcases List.mem_append.1 hc with hc | hc
  · exact h c hc
  · simp [ltr] at hc
    subst hc
    have : a = 0 ∨ a = 1 ∨ a = 2 := by omega
    rcases this with rfl | rfl | rfl <;> exact ⟨by decide, by simpa using ha⟩
theorem okW_nil (k : Nat) : okW k [] := by simp [okW]
theorem okW_app {k : Nat} {u w : List UInt8} (h : okW k u) (g : okW k w) : okW k (u ++ w) := fun c hc => by
  rcases List.mem_append.1 hc with hc | hc
  · exact h c hc
  · exact g c hc
abbrev SM := List (List Nat) × List (List UInt8)
def bInM (rows : List (List Int)) (x : List Nat) (w : List UInt8) : Nat → Nat → SM → Option SM
  | 0, _, S => some S
  | c + 1, a, S => if nxM rows x a ∈ S.1 then bInM rows x w c (a + 1) S else if S.1.length = 400 then none else bInM rows x w c (a + 1) (S.1 ++ [nxM rows x a], S.2 ++ [extL w a])
def bfsM (rows : List (List Int)) (k : Nat) : Nat → Nat → SM → Option SM
  | 0, _, S => some S
  | f + 1, i, S => match S.1[i]?, S.2[i]? with
    | some x, some w => (bInM rows x w k 0 S).bind fun S' => bfsM rows k f (i + 1) S'
    | _, _ => some S
def madeS (rows : List (List Int)) (k : Nat) : Option SM := bfsM rows k 401 0 ([mv6 rows []], [[]])
structure MOk (rows : List (List Int)) (k : Nat) (S : SM) : Prop where
  nd : S.1.Nodup
  eq : S.1 = S.2.map (mv6 rows)
  ok : ∀ w ∈ S.2, okW k w ∧ w.length ≤ S.2.length
  le : S.1.length ≤ 400
section
variable {rows : List (List Int)} {k : Nat} {S : SM}
theorem MOk.len (h : MOk rows k S) : S.1.length = S.2.length := by rw [h.eq]; simp
theorem MOk.at (h : MOk rows k S) {i : Nat} {x : List Nat} {w : List UInt8} (h1 : S.1[i]? = some x) (h2 : S.2[i]? = some w) : x = mv6 rows w := by
  rw [h.eq, List.getElem?_map, h2] at h1
  exact (Option.some.inj h1).symm
theorem MOk.six (h : MOk rows k S) : ∀ x ∈ S.1, x.length = 6 := by
  rw [h.eq]
  intro x hx
  simp only [List.mem_map] at hx
  obtain ⟨w, _, rfl⟩ := hx
  simp
theorem MOk.add (h : MOk rows k S) (n6 : rows.length ≤ 6) (k3 : k ≤ 3) {w : List UInt8} {a : Nat} (hw : w ∈ S.2) (ha : a < k) (hn : nxM rows (mv6 rows w) a ∉ S.1) (hl : S.1.length ≠ 400) : MOk rows k (S.1 ++ [nxM rows (mv6 rows w) a], S.2 ++ [extL w a]) := by
  have hle := h.le
  have hlen := h.len
  refine ⟨?_, ?_, ?_, ?_⟩
  · rw [List.nodup_append]
    refine ⟨h.nd, by simp, ?_⟩
    intro x hx y hy
    simp at hy
    subst hy
    exact fun e => hn (e ▸ hx)
  · simp only [List.map_append, List.map_cons, List.map_nil]
    rw [← h.eq, mv6_ltr rows n6 w (by omega)]
  · intro u hu
    rcases List.mem_append.1 hu with hu | hu
    · have := h.ok u hu
      exact ⟨this.1, by simp; omega⟩
    · simp at hu
      subst hu
      have := h.ok w hw
      exact ⟨okW_ext this.1 ha k3, by simp [extL, ltr]; omega⟩
  · simp; omega
theorem bInM_ok (n6 : rows.length ≤ 6) (k3 : k ≤ 3) {w : List UInt8} : ∀ (c a : Nat) (S S' : SM), a + c ≤ k → MOk rows k S → w ∈ S.2 → bInM rows (mv6 rows w) w c a S = some S' → MOk rows k S' ∧ (∃ p q, S'.1 = S.1 ++ p ∧ S'.2 = S.2 ++ q) ∧ ∀ b, a ≤ b → b < a + c → nxM rows (mv6 rows w) b ∈ S'.1
  | 0, a, S, S', _, h, hw, e => by
    simp only [bInM, Option.some.injEq] at e
    subst e
    exact ⟨h, ⟨[], [], by simp, by simp⟩, by omega⟩
  | c + 1, a, S, S', hc, h, hw, e => by
    rw [bInM] at e
    by_cases q : nxM rows (mv6 rows w) a ∈ S.1
    · rw [if_pos q] at e
      obtain ⟨h1, ⟨p, r, h2, h3⟩, h4⟩ := bInM_ok n6 k3 c (a + 1) S S' (by omega) h hw e
      refine ⟨h1, ⟨p, r, h2, h3⟩, fun b b1 b2 => ?_⟩
      by_cases ba : b = a
      · subst ba; rw [h2]; exact List.mem_append_left _ q
      · exact h4 b (by omega) (by omega)
    · rw [if_neg q] at e
      by_cases q2 : S.1.length = 400
      · rw [if_pos q2] at e; cases e
      · rw [if_neg q2] at e
        obtain ⟨h1, ⟨p, r, h2, h3⟩, h4⟩ := bInM_ok n6 k3 c (a + 1) _ S' (by omega) (h.add n6 k3 hw (by omega) q q2) (by simp [hw]) e
        refine ⟨h1, ⟨nxM rows (mv6 rows w) a :: p, extL w a :: r, by rw [h2]; simp, by rw [h3]; simp⟩, fun b b1 b2 => ?_⟩
        by_cases ba : b = a
        · subst ba; rw [h2]; simp
        · exact h4 b (by omega) (by omega)
theorem bfsM_ok (n6 : rows.length ≤ 6) (k3 : k ≤ 3) : ∀ (f i : Nat) (S S' : SM), MOk rows k S → i ≤ S.1.length → 400 < f + i → (∀ x ∈ S.1.take i, ∀ a, a < k → nxM rows x a ∈ S.1) → bfsM rows k f i S = some S' → MOk rows k S' ∧ (∃ p q, S'.1 = S.1 ++ p ∧ S'.2 = S.2 ++ q) ∧ ∀ x ∈ S'.1, ∀ a, a < k → nxM rows x a ∈ S'.1 := by
  intro f
  induction f with
  | zero => intro i S S' h hi hf; have := h.le; omega
  | succ f ih =>
    intro i S S' h hi hf hcl e
    by_cases c : i < S.1.length
    · have hx := List.getElem?_eq_getElem c
      have c2 : i < S.2.length := by rw [← h.len]; exact c
      have hw := List.getElem?_eq_getElem c2
      generalize S.1[i] = x at hx
      generalize S.2[i] = w at hw
      have hxw := h.at hx hw
      subst hxw
      rw [bfsM, hx, hw] at e
      simp only [] at e
      cases e1 : bInM rows (mv6 rows w) w k 0 S with
      | none => rw [e1] at e; cases e
      | some S1 =>
        rw [e1, Option.bind_some] at e
        obtain ⟨h1, ⟨p, r, h2, h3⟩, h4⟩ := bInM_ok n6 k3 k 0 S S1 (by omega) h (List.mem_of_getElem? hw) e1
        have ht : S1.1.take (i + 1) = S.1.take i ++ [mv6 rows w] := by rw [h2, List.take_append_of_le_length (by omega), List.take_add_one, hx]; rfl
        obtain ⟨g1, ⟨p', r', g2, g3⟩, g4⟩ := ih (i + 1) S1 S' h1 (by rw [h2]; simp; omega) (by omega) (by
          rw [ht]
          intro y hy a ha
          rcases List.mem_append.1 hy with hy | hy
          · rw [h2]; exact List.mem_append_left _ (hcl y hy a ha)
          · simp at hy
            subst hy
            exact h4 a (by omega) (by omega)) e
        exact ⟨g1, ⟨p ++ p', r ++ r', by rw [g2, h2, List.append_assoc], by rw [g3, h3, List.append_assoc]⟩, g4⟩
    · have hx : S.1[i]? = none := List.getElem?_eq_none (by omega)
      rw [bfsM, hx] at e
      simp only [Option.some.injEq] at e
      subst e
      refine ⟨h, ⟨[], [], by simp, by simp⟩, fun x hx a ha => hcl x ?_ a ha⟩
      rw [List.take_of_length_le (by omega)]; exact hx
theorem MOk1 (rows : List (List Int)) (k : Nat) : MOk rows k ([mv6 rows []], [[]]) := ⟨by simp, rfl, by intro w hw; simp at hw; subst hw; exact ⟨okW_nil k, by simp⟩, by simp⟩
theorem madeS_ok (n6 : rows.length ≤ 6) (k3 : k ≤ 3) {S : SM} (h : madeS rows k = some S) : MOk rows k S ∧ (∃ p q, S.1 = [mv6 rows []] ++ p ∧ S.2 = [[]] ++ q) ∧ ∀ x ∈ S.1, ∀ a, a < k → nxM rows x a ∈ S.1 :=
  bfsM_ok n6 k3 401 0 _ S (MOk1 rows k) (by simp) (by omega) (by simp) h
end
def isF : AV → Bool
  | .fsl .. => true
  | _ => false
def Nf (h : Nat → Option AObj) (v : AV) (xs : List AV) (lo hi : Nat) : Prop := v = .fsl true xs.length xs ∨ ∃ R, v = .sl R 1 0 xs.length xs.length ∧ h R = some (.cells xs) ∧ lo ≤ R ∧ R < hi
section
variable {h h' : Nat → Option AObj} {v : AV} {xs : List AV} {lo hi hi' : Nat}
theorem Nf.fr (n : Nf h v xs lo hi) (e : ∀ y, lo ≤ y → y < hi → objId v = some y → h' y = h y) (l : hi ≤ hi') : Nf h' v xs lo hi' := by
  rcases n with rfl | ⟨R, rfl, h1, h2, h3⟩
  · exact .inl rfl
  · exact .inr ⟨R, rfl, by rw [e R h2 h3 rfl, h1], h2, by omega⟩
theorem Nf.one (n : Nf h v xs lo hi) : v.one = true := by
  rcases n with rfl | ⟨R, rfl, h1, h2, h3⟩ <;> rfl
theorem Nf.oid (n : Nf h v xs lo hi) {y : Nat} (e : objId v = some y) : lo ≤ y ∧ y < hi := by
  rcases n with rfl | ⟨R, rfl, h1, h2, h3⟩
  · cases e
  · simp [objId] at e; omega
theorem Nf.len (n : Nf h v xs lo hi) : lenSl v = some (.int .i64 xs.length) := by
  rcases n with rfl | ⟨R, rfl, h1, h2, h3⟩ <;> rfl
theorem Nf.at (n : Nf h v xs lo hi) {i : Nat} (hi' : i < xs.length) : ∃ p, idxSl 1 v (.int .i64 i) = some p ∧ (∀ nx, loadA false 1 ⟨h, nx⟩ p = xs[i]?) ∧ objId p = objId v := by
  rcases n with rfl | ⟨R, rfl, h1, h2, h3⟩
  · exact ⟨.fptr (xs.drop i), by simp [hi'], fun nx => by simp [loadA, readN, read1, List.head?_drop], rfl⟩
  · exact ⟨.ptr R i xs.length, by simp [hi'], fun nx => by simp [h1], rfl⟩
theorem Nf.deep (n : Nf h v xs lo hi) (d : Nat) (hd : ∀ x ∈ xs, AM.deep h d x = some x) : AM.deep h (d + 1) v = some (.fsl (isF v) xs.length xs) := by
  rcases n with rfl | ⟨R, rfl, h1, h2, h3⟩
  · rfl
  · simp [AM.deep, h1, mapO_same xs hd, isF]
theorem Nf.app {nx by' : Nat} (n : Nf h v xs lo hi) (hh : hi ≤ nx) (hl : lo ≤ nx) (hr : room (xs.length + 1) by' = true) (y : AV) :
    ∃ v' h' nx', appT 1 by' ⟨h, nx⟩ v (some (1, [y])) = some (v', ⟨h', nx'⟩) ∧ Nf h' v' (xs ++ [y]) lo nx' ∧ nx ≤ nx' ∧ nx' ≤ nx + 1 ∧ (∀ z, objId v' = some z → objId v = some z ∨ z = nx) ∧ (∀ z, objId v' ≠ some z → h' z = h z) ∧ isF v' = false := by
  rcases n with rfl | ⟨R, rfl, h1, h2, h3⟩
  · refine ⟨.sl nx 1 0 (xs.length + 1) (xs.length + 1), upd h nx (some (.cells (xs ++ [y]))), nx + 1, ?_, .inr ⟨nx, by simp, by simp, hl, by omega⟩, by omega, by omega, fun z e => .inr (by simp [objId] at e; omega), fun z e => updNe (fun q => e (by rw [q]; rfl)), rfl⟩
    simp at hr
    simp [Mem.new, hr]
  · refine ⟨.sl R 1 0 (xs.length + 1) (xs.length + 1), upd h R (some (.cells (xs ++ [y]))), nx, ?_, .inr ⟨R, by simp, by simp, h2, by omega⟩, by omega, by omega, fun z e => .inl e, fun z e => updNe (fun q => e (by rw [q]; rfl)), rfl⟩
    simp at hr
    simp [h1, hr.1, hr.2]
end
end Go.Proofs.Ythnpflkpjimkfaa

/-
  ALL ELEMENTS OF A MONOID: the program's search. Conditions: none.
-/
namespace Go.Proofs.Ythnpflkpjimkfaa
open Go.AM
open Go.Proofs.Try (prog)
set_option linter.all false
set_option maxRecDepth 100000
set_option maxHeartbeats 8000000
def natV (x : Nat) : AV := .int .i64 (x : Nat)
structure Md (m : Mem) (M O : Nat) (nv gv wv : AV) (S : SM) (lo : Nat) : Prop where
  o : m.h M = some (.cells [nv, gv, wv, .map O])
  w : Nf m.h wv (S.2.map .str) lo m.nx
  p : Mp m O (S.1.map encM) ((List.range S.1.length).map natV)
  mo : M < lo ∧ O < lo ∧ M ≠ O
  x : isF wv = decide (S.2.length = 1)
noncomputable def KM0 : List Item := [.code brand_made.r20, .code .ret]
noncomputable def KM2 : List Item := .inBlock 1 :: .code brand_made.r7 :: .inLoop brand_made.l0 :: .inBlock 0 :: KM0
def monV (nv gv : AV) (S : SM) : AV := .fptr [nv, gv, .fsl (decide (S.2.length = 1)) S.2.length (S.2.map .str), .fmap (S.1.map encM) ((List.range S.1.length).map natV)]
theorem deep_md {m : Mem} {M O : Nat} {nv gv wv : AV} {S : SM} {lo : Nat} (D : Md m M O nv gv wv S lo) (n1 : ∀ hp d, AM.deep hp (d + 1) nv = some nv) (n2 : ∀ hp d, AM.deep hp (d + 1) gv = some gv) (e : Nat) : AM.deep m.h (e + 5) (.ptr M 0 4) = some (monV nv gv S) := by
  have he := D.w.deep (e + 3) (fun x hx => by
    simp only [List.mem_map] at hx
    obtain ⟨b, _, rfl⟩ := hx
    rfl)
  rw [D.x] at he
  obtain ⟨⟨g, hg⟩, _⟩ := D.p
  have k1 : mapO (AM.deep m.h (e + 3)) (S.1.map encM) = some (S.1.map encM) := mapO_same _ (fun x hx => by
    simp only [List.mem_map] at hx
    obtain ⟨b, _, rfl⟩ := hx
    simp [encM, encM_mapO])
  have k2 : mapO (AM.deep m.h (e + 3)) ((List.range S.1.length).map natV) = some ((List.range S.1.length).map natV) := mapO_same _ (fun x hx => by
    simp only [List.mem_map] at hx
    obtain ⟨b, _, rfl⟩ := hx
    rfl)
  simp at he
  simp [D.o, n1, n2, he, hg, k1, k2, monV]
theorem nat_flatL : ∀ t : List Nat, flatL (t.map fun x => AV.int .i64 (x : Nat)) = true
  | [] => rfl
  | a :: t => by simp [flatL, AV.flat1, AV.flat, nat_flatL t]
theorem dsV_flat (rows : List (List Int)) (w : List UInt8) : (dsV rows w).flat = true := by
  unfold dsV encM
  split
  · rfl
  · exact nat_flatL _
theorem dsV_deep (rows : List (List Int)) (w : List UInt8) (h : Nat → Option AObj) (d : Nat) : AM.deep h (d + 1) (dsV rows w) = some (dsV rows w) := by
  unfold dsV encM
  split
  · rfl
  · exact deep_encM h d 139 _
theorem encM_flat (t : List Nat) : (AV.agg (t.map fun x => AV.int .i64 (x : Nat))).flat = true := nat_flatL t
theorem md_in {nv gv : AV} {ps : List AV} {rows : List (List Int)} {good : List Bool} {k : Nat} (hn : IsRows nv ps rows) (hg : IsB gv good) (v : VB rows good k) {M O lo i : Nat} {w : List UInt8} {r : Option Res} :
    ∀ (c a : Nat) (m : Mem) (wv : AV) (S : SM), a + c = k → Md m M O nv gv wv S lo → lo ≤ m.nx → MOk rows k S → S.2[i]? = some w → i < 400 →
    (∀ S', bInM rows (mv6 rows w) w c a S = some S' → ∀ m' wv', Md m' M O nv gv wv' S' lo → lo ≤ m'.nx → brand_made.L0 (.ptr M 0 4) (.int .i64 ((i : Int) + 1)) m' KM0 = r) →
    (bInM rows (mv6 rows w) w c a S = none → r = some (.tup [.nilp, .int .i64 7], Mem.empty)) →
    brand_made.L2 (.ptr M 0 4) (.int .i64 i) (.int .i64 k) (.int .i64 a) m KM2 = r := by
  intro c
  have n6 := v.n6
  have k3 := v.k3
  induction c with
  | zero =>
    intro a m wv S h1 D hlo hS hw hi hk hf
    have e : a = k := by omega
    subst e
    have hwi : IntKind.wrap .i64 ((i : Int) + 1) = (i : Int) + 1 := wrap_id (by omega) (by omega)
    have hk := hk S rfl m wv D hlo
    rw [brand_made.L2_eq]
    simp [KM2, hwi]
    exact hk
  | succ c ih =>
    intro a m wv S h1 D hlo hS hw hi hk hf
    have ha : a < k := by omega
    have hwa : IntKind.wrap .i64 ((a : Int) + 1) = (a : Int) + 1 := wrap_id (by omega) (by omega)
    have hi2 := (List.getElem?_eq_some_iff.1 hw).1
    have hwm := List.mem_of_getElem? hw
    have hle := hS.le
    have hlen := hS.len
    have hlt := fun m => letter_spec (a := a) (by omega) m
    obtain ⟨h, nx0⟩ := m
    obtain ⟨p, hp1, hp2, _⟩ := D.w.at (i := i) (by simpa using hi2)
    have hs2 : (S.2.map AV.str)[i]? = some (.str w) := by simp [hw]
    rw [hs2] at hp2
    have hok := hS.ok w hwm
    have hoke := okW_ext hok.1 ha k3
    have hll : w.length + (ltr a).length ≤ 4611686018427387904 := by simp [ltr]; omega
    have hle1 : (extL w a).length ≤ 1000000 := by simp [extL, ltr]; omega
    have hd := deep_md D hn.deep hg.deep 1
    have hfl := (letF_iff k (extL w a)).2 hoke
    have hdo := fun m => does_spec (wv := .fsl (decide (S.2.length = 1)) S.2.length (S.2.map .str)) (ov := .fmap (S.1.map encM) ((List.range S.1.length).map natV)) hn hg v rfl rfl hle1 hfl m
    have htb := fun m => table_spec (wv := .fsl (decide (S.2.length = 1)) S.2.length (S.2.map .str)) (ov := .fmap (S.1.map encM) ((List.range S.1.length).map natV)) hn hg v rfl rfl (extL w a) m
    have et : nxM rows (mv6 rows w) a = mv6 rows (w ++ ltr a) := (mv6_ltr rows n6 w (by omega)).symm
    rw [bInM, et] at hk hf
    simp only [extL, encM] at hdo htb
    have hM : h M = some (.cells [nv, gv, wv, .map O]) := D.o
    have moM := D.mo
    simp only [monV] at hd hlo
    have hM2 : (M == nx0 + 11) = false := beq_eq_false_iff_ne.2 (by omega)
    have tlen : (mv6 rows (w ++ ltr a)).length = 6 := mv6_len _ _
    have tk : ((mv6 rows (w ++ ltr a)).map fun x => AV.int .i64 (x : Nat)).take 6 = (mv6 rows (w ++ ltr a)).map fun x => AV.int .i64 (x : Nat) := List.take_of_length_le (by simp)
    have P1 : Mp ⟨upd h (nx0 + 11) none, nx0 + 11 + 1 + 11⟩ O (S.1.map encM) ((List.range S.1.length).map natV) := D.p.fr (updNe (by omega)) (by show O < nx0 + 11 + 1 + 11; omega)
    have l1 := P1.look keysM (fun x hx => hS.six x hx) (by simp) tlen (.int .i64 0) true
    have wl := D.w.fr (h' := upd h (nx0 + 11) none) (hi' := nx0 + 11 + 1) (fun y y1 y2 _ => updNe (by have : y < nx0 := y2; omega)) (by show nx0 ≤ nx0 + 11 + 1; omega)
    by_cases hc : mv6 rows (w ++ ltr a) ∈ S.1
    · rw [if_pos hc] at hk hf
      obtain ⟨i', hi'⟩ := List.getElem?_of_mem hc
      have hi2' := (List.getElem?_eq_some_iff.1 hi').1
      have q1 := lkP_at (vs := List.range S.1.length) hS.nd hi' (w := i') (by simp [hi2'])
      rw [q1] at l1
      simp only [encM, natV] at l1
      have st := ih (a + 1) ⟨upd h (nx0 + 11) none, nx0 + 11 + 1 + 11⟩ wv S (by omega) ⟨by show upd h (nx0 + 11) none M = _; rw [updNe (by omega)]; exact hM, wl.fr (fun _ _ _ _ => rfl) (by show nx0 + 11 + 1 ≤ nx0 + 11 + 1 + 11; omega), P1, D.mo, D.x⟩ (by show lo ≤ nx0 + 11 + 1 + 11; omega) hS hw hi hk hf
      simp only [Int.natCast_add, Int.cast_ofNat_Int] at st
      rw [brand_made.L2_eq]
      simp [ha, hM, hM2, hp1, hp2, hlt, hll, hd, hdo, htb, dsV_flat, dsV_deep, encM_flat, encM_one, encM_closed, tk, l1, hwa, -deep_ptr]
      exact st
    · rw [if_neg hc] at hk hf
      have q1 := lkP_none (vs := List.range S.1.length) hc
      rw [q1] at l1
      simp only [encM, natV] at l1
      by_cases h400 : S.1.length = 400
      · rw [if_pos h400] at hf
        have hr := hf rfl
        have h4 : ((S.2.length : Nat) : Int) = 400 := by omega
        rw [hr, brand_made.L2_eq]
        simp [ha, hM, hM2, hp1, hp2, hlt, hll, hd, hdo, htb, dsV_flat, dsV_deep, encM_flat, encM_one, encM_closed, tk, l1, wl.len, h4, -deep_ptr]
        done
      · rw [if_neg h400] at hk hf
        have h4 : ¬ (S.2.length : Int) = 400 := by omega
        have P2 : Mp ⟨upd h (nx0 + 11) none, nx0 + 11 + 1 + 11 + 10⟩ O (S.1.map encM) ((List.range S.1.length).map natV) := D.p.fr (updNe (by omega)) (by show O < nx0 + 11 + 1 + 11 + 10; omega)
        obtain ⟨m2, p1, p2, p3, p4⟩ := P2.put keysM (fun x hx => hS.six x hx) (by simp) tlen hc S.2.length
        simp only [encM, natV] at p1
        have hm2M : m2.h M = some (.cells [nv, gv, wv, .map O]) := by rw [p4 M moM.2.2]; show upd h (nx0 + 11) none M = _; rw [updNe (by omega)]; exact hM
        have wl2 : Nf m2.h wv (S.2.map .str) lo (nx0 + 11 + 1) := wl.fr (fun y y1 y2 _ => p4 y (by omega)) (Nat.le_refl _)
        obtain ⟨wv', h3, nx', g1, g2, g3, g4, g5, g6, g7⟩ := wl2.app (nx := nx0 + 11 + 1 + 11 + 11) (by' := 16) (by omega) (by omega) (by simp; omega) (.str (w ++ ltr a))
        have low : ∀ y, y < lo → h3 y = m2.h y := fun y hy => g6 y (fun e => by
          rcases g5 y e with q | q
          · have := wl2.oid q; omega
          · omega)
        have h3M : h3 M = some (.cells [nv, gv, wv, .map O]) := by rw [low M moM.1]; exact hm2M
        have erng : List.range S.1.length ++ [S.2.length] = List.range (S.1 ++ [mv6 rows (w ++ ltr a)]).length := by
          rw [List.length_append, List.length_singleton, List.range_succ, hlen]
        have st := ih (a + 1) ⟨upd h3 M (some (.cells [nv, gv, wv', .map O])), nx'⟩ wv' (S.1 ++ [mv6 rows (w ++ ltr a)], S.2 ++ [extL w a]) (by omega)
          ⟨by simp, by
            show Nf (upd h3 M (some (.cells [nv, gv, wv', .map O]))) wv' ((S.2 ++ [extL w a]).map .str) lo nx'
            rw [List.map_append]
            exact g2.fr (fun y y1 y2 _ => updNe (by omega)) (Nat.le_refl _), by
            rw [erng] at p2
            exact p2.fr (by show upd h3 M (some (.cells [nv, gv, wv', .map O])) O = m2.h O; rw [updNe (Ne.symm moM.2.2), low O moM.2.1]) (by show O < nx'; omega), D.mo, by rw [g7]; exact (decide_eq_false (by show ¬ (S.2 ++ [extL w a]).length = 1; rw [List.length_append]; have := List.length_pos_of_mem hwm; simp only [List.length_singleton]; omega)).symm⟩ (by show lo ≤ nx'; omega)
          (by have := hS.add n6 k3 hwm ha (by rw [et]; exact hc) h400; rw [et] at this; exact this)
          (by rw [List.getElem?_append_left hi2]; exact hw) hi hk hf
        simp only [Int.natCast_add, Int.cast_ofNat_Int] at st
        rw [brand_made.L2_eq]
        simp [ha, hM, hM2, hp1, hp2, hlt, hll, hd, hdo, htb, dsV_flat, dsV_deep, encM_flat, encM_one, encM_closed, tk, l1, wl.len, h4, p1, hm2M, wl.one, g1, h3M, (show wv'.one = true from g2.one), hwa, -deep_ptr]
        exact st
def mdR (nv gv : AV) : Option SM → AV
  | some S => .tup [monV nv gv S, .int .i64 0]
  | none => .tup [.nilp, .int .i64 7]
theorem md_out {nv gv : AV} {ps : List AV} {rows : List (List Int)} {good : List Bool} {k : Nat} (hn : IsRows nv ps rows) (hg : IsB gv good) (v : VB rows good k) {M O lo : Nat} :
    ∀ (f i : Nat) (m : Mem) (wv : AV) (S : SM), Md m M O nv gv wv S lo → lo ≤ m.nx → MOk rows k S → i ≤ S.1.length → 400 < f + i →
    brand_made.L0 (.ptr M 0 4) (.int .i64 i) m KM0 = some (mdR nv gv (bfsM rows k f i S), Mem.empty) := by
  intro f
  have n6 := v.n6
  have k3 := v.k3
  induction f with
  | zero => intro i m wv S D hlo hS hi hf; have := hS.le; omega
  | succ f ih =>
    intro i m wv S D hlo hS hi hf
    have hle := hS.le
    have hlen := hS.len
    obtain ⟨h, nx0⟩ := m
    have hM : h M = some (.cells [nv, gv, wv, .map O]) := D.o
    by_cases c : i < S.1.length
    · have hx := List.getElem?_eq_getElem c
      have c2 : i < S.2.length := by rw [← hS.len]; exact c
      have hw := List.getElem?_eq_getElem c2
      generalize S.1[i] = x at hx
      generalize S.2[i] = w at hw
      have hxw := hS.at hx hw
      subst hxw
      have hwm := List.mem_of_getElem? hw
      have r0 := v.rl 0 v.n1
      have i0 := hn.idx (i := 0) v.n1 .i64
      have j0 := hn.head (i := 0) v.n1
      have iw0 := hn.row 0 v.n1
      simp only [Int.ofNat_zero, Int.cast_ofNat_Int, List.drop_zero] at i0 j0
      rw [bfsM, hx, hw]
      simp only []
      have st := md_in (M := M) (O := O) (lo := lo) (i := i) (w := w) (r := some (mdR nv gv ((bInM rows (mv6 rows w) w k 0 S).bind fun S' => bfsM rows k f (i + 1) S'), Mem.empty)) hn hg v k 0 ⟨h, nx0⟩ wv S (by omega) D hlo hS hw (by omega) (fun S1 e m' wv' D' hlo' => by
        obtain ⟨h1, ⟨p, r, h2, h3⟩, h4⟩ := bInM_ok n6 k3 k 0 S S1 (by omega) hS hwm e
        have := ih (i + 1) m' wv' S1 D' hlo' h1 (by rw [h2]; simp; omega) (by omega)
        simp only [Int.natCast_add, Int.cast_ofNat_Int] at this
        rw [e, Option.bind_some]
        exact this) (fun e => by rw [e]; rfl)
      simp only [Int.ofNat_zero, Int.cast_ofNat_Int] at st
      rw [brand_made.L0_eq]
      simp [hM, D.w.len, c2, i0, j0, iw0.len, r0]
      exact st
    · have hx : S.1[i]? = none := List.getElem?_eq_none (by omega)
      have c2 : ¬ i < S.2.length := by omega
      have hd := deep_md D hn.deep hg.deep 0
      simp only at hd
      rw [bfsM, hx, brand_made.L0_eq]
      simp [hM, D.w.len, c2, KM0, hd, mdR, -deep_ptr]
      done
noncomputable def madeB (rows : List (List Int)) (good : List Bool) (k : Nat) : Option SM := madeS (rowsM rows good k) k
theorem deep_142 (h : Nat → Option AObj) (d : Nat) : AM.deep h (d + 1) (.iface 142 (.agg [])) = some (.iface 142 (.agg [])) := rfl
theorem made_spec {nv gv : AV} {ps : List AV} {rows : List (List Int)} {good : List Bool} (hn : IsRows nv ps rows) (hg : IsB gv good) (hl : rows.length ≤ 1000) (hgl : good.length ≤ 1000) (hr : ∀ i, i < rows.length → (cth rows i).length ≤ 1000) (m : Mem) :
    denC prog ann 70 [.agg [nv, gv]] m = some (if validB rows good = true then mdR (nvM rows good (cth rows 0).length) (gvM rows good (cth rows 0).length) (madeB rows good (cth rows 0).length) else .tup [.nilp, .int .i64 1], m) := by
  have h1 := fun m => valid_spec hn hg hl hgl hr m
  rw [brand_made.call_eq _ _ (by simp [hn.closed, hg.closed])]
  cases c0 : validB rows good with
  | false =>
    rw [c0] at h1
    simp [hn.one, hg.one, hn.closed, hg.closed, h1]
    done
  | true =>
    rw [c0] at h1
    have v := VB.of c0
    have h2 := fun m => smallest_spec hn hg v m
    rw [repL_eq v, resV_eq] at h2
    have vm := VB_M v
    have hm := isRows_M rows good (cth rows 0).length
    have hb := isB_M rows good (cth rows 0).length
    have htb := fun m => table_spec (wv := .fsl true 1 [.str []]) (ov := .fmap [] []) hm hb vm rfl rfl [] m
    rw [show dsV (rowsM rows good (cth rows 0).length) [] = .iface 142 (.agg []) from rfl] at htb
    simp only [encM] at htb
    have hm0 : Mp ⟨upd (upd Mem.empty.h 0 (some (AObj.map 0 [] []))) 1 (some (AObj.cells [nvM rows good (cth rows 0).length, gvM rows good (cth rows 0).length, AV.fsl true 1 [AV.str []], AV.map 0])), 10⟩ 0 (([] : List (List Nat)).map encM) (([] : List Nat).map natV) := ⟨⟨0, by simp⟩, by show 0 < 10; omega⟩
    obtain ⟨m2, p1, p2, p3, p4⟩ := hm0.put (c := mv6 (rowsM rows good (cth rows 0).length) []) keysM (by simp) rfl (mv6_len _ _) (by simp) 0
    simp only [encM, natV, Int.ofNat_zero, Int.cast_ofNat_Int] at p1
    have st := md_out (M := 1) (O := 0) (lo := 2) hm hb vm 401 0 ⟨m2.h, 11⟩ (.fsl true 1 [.str []]) ([mv6 (rowsM rows good (cth rows 0).length) []], [[]]) ⟨by show m2.h 1 = _; rw [p4 1 (by omega)]; simp, .inl rfl, p2.fr rfl (by show 0 < 11; omega), by omega, rfl⟩ (by show 2 ≤ 11; omega) (MOk1 _ _) (by simp) (by omega)
    simp only [Int.ofNat_zero, Int.cast_ofNat_Int, KM0] at st
    have d1 := fun hp => hm.deep hp 4
    have d2 := fun hp => hb.deep hp 4
    simp [hn.one, hg.one, hn.closed, hg.closed, h1, h2, hm.one, hb.one, d1, d2, deep_142, htb, encM_flat, p1]
    rw [st]
    rfl
end Go.Proofs.Ythnpflkpjimkfaa

/-
  ELEMENTS' NUMBERS: the program's Monoid, Element, Idempotents. Conditions: none.
-/
namespace Go.Proofs.Ythnpflkpjimkfaa
open Go.AM
open Go.Proofs.Try (prog)
set_option linter.all false
set_option maxRecDepth 100000
set_option maxHeartbeats 8000000
def numM (rows : List (List Int)) (S : SM) (w : List UInt8) : Nat := S.1.idxOf (mv6 rows w)
structure MW (rows : List (List Int)) (k : Nat) (S : SM) : Prop where
  ok : MOk rows k S
  pre : ∃ p q, S.1 = [mv6 rows []] ++ p ∧ S.2 = [[]] ++ q
  cl : ∀ x ∈ S.1, ∀ a, a < k → nxM rows x a ∈ S.1
section
variable {rows : List (List Int)} {k : Nat} {S : SM}
theorem chr_ltr {c : UInt8} (h : 97 ≤ c.toNat) : [c] = ltr (c.toNat - 97) := by
  rw [ltr, show 97 + (c.toNat - 97) = c.toNat by omega]
  simp
theorem MW.mem (h : MW rows k S) (n6 : rows.length ≤ 6) (k3 : k ≤ 3) : ∀ (w p : List UInt8), okW k w → mv6 rows p ∈ S.1 → mv6 rows (p ++ w) ∈ S.1
  | [], p, _, hp => by simpa using hp
  | c :: w, p, hw, hp => by
    have hc := hw c (by simp)
    have e : p ++ c :: w = (p ++ [c]) ++ w := by simp
    rw [e]
    refine MW.mem h n6 k3 w (p ++ [c]) (fun b hb => hw b (by simp [hb])) ?_
    rw [chr_ltr hc.1]
    have := mv6_ltr rows n6 p (a := c.toNat - 97) (by omega)
    rw [extL] at this
    rw [this]
    exact h.cl _ hp _ hc.2
theorem MW.all (h : MW rows k S) (n6 : rows.length ≤ 6) (k3 : k ≤ 3) {w : List UInt8} (hw : okW k w) : mv6 rows w ∈ S.1 := by
  have := h.mem n6 k3 w [] hw (by obtain ⟨p, _, e, _⟩ := h.pre; rw [e]; simp)
  simpa using this
theorem MW.lt (h : MW rows k S) (n6 : rows.length ≤ 6) (k3 : k ≤ 3) {w : List UInt8} (hw : okW k w) : numM rows S w < S.1.length := List.idxOf_lt_length_iff.2 (h.all n6 k3 hw)
theorem MW.at (h : MW rows k S) (n6 : rows.length ≤ 6) (k3 : k ≤ 3) {w : List UInt8} (hw : okW k w) : S.1[numM rows S w]? = some (mv6 rows w) := by
  have hl := h.lt n6 k3 hw
  rw [List.getElem?_eq_getElem hl]
  simp [numM]
theorem MW.pos (h : MW rows k S) : 0 < S.1.length := by obtain ⟨p, _, e, _⟩ := h.pre; rw [e]; simp
def wrd (S : SM) (i : Nat) : List UInt8 := S.2.getD i []
theorem MW.wok (h : MW rows k S) {i : Nat} (hi : i < S.1.length) : S.2[i]? = some (wrd S i) ∧ okW k (wrd S i) ∧ (wrd S i).length ≤ 400 ∧ S.1[i]? = some (mv6 rows (wrd S i)) := by
  have hi2 : i < S.2.length := by rw [← h.ok.len]; exact hi
  have e : S.2[i]? = some (wrd S i) := by simp [wrd, List.getD_eq_getElem?_getD, hi2]
  have hm := List.mem_of_getElem? e
  have := h.ok.ok _ hm
  have hle := h.ok.le
  have hlen := h.ok.len
  refine ⟨e, this.1, by omega, ?_⟩
  rw [h.ok.eq, List.getElem?_map, e]; rfl
theorem MW.self (h : MW rows k S) {i : Nat} (hi : i < S.1.length) : numM rows S (wrd S i) = i := by
  obtain ⟨_, _, _, e⟩ := h.wok hi
  have e' := (List.getElem?_eq_some_iff.1 e).2
  rw [numM, ← e']
  exact h.ok.nd.idxOf_getElem i hi
theorem look_num (h : MW rows k S) (n6 : rows.length ≤ 6) (k3 : k ≤ 3) {w : List UInt8} (hw : okW k w) (m : Mem) : lookP prog m 139 (.int .i64 0) (.fmap (S.1.map encM) ((List.range S.1.length).map natV)) (encM (mv6 rows w)) false = some (.int .i64 (numM rows S w : Nat)) := by
  have hl := h.lt n6 k3 hw
  have q1 := lkP_at (vs := List.range S.1.length) h.ok.nd (h.at n6 k3 hw) (w := numM rows S w) (by simp [hl])
  simp only [lookP, keysM.key (mv6 rows w) (mv6_len _ _), cond_true, lookA, findK_of keysM (vs := List.range S.1.length) (ev := natV) (fun x hx => h.ok.six x hx) (mv6_len rows w) (by simp), q1, Option.bind_some]
  rfl
end
theorem number_spec {nv gv : AV} {ps : List AV} {rows : List (List Int)} {good : List Bool} {k : Nat} (hn : IsRows nv ps rows) (hg : IsB gv good) (v : VB rows good k) {S : SM} (h : MW rows k S) {w : List UInt8} (hw : okW k w) (hwl : w.length ≤ 1000000) (m : Mem) :
    denC prog ann 71 [monV nv gv S, .str w] m = some (.int .i64 (numM rows S w : Nat), m) := by
  have hl := look_num h v.n6 v.k3 hw
  have hfl := (letF_iff k w).2 hw
  have hdo := fun m => does_spec (wv := .fsl (decide (S.2.length = 1)) S.2.length (S.2.map .str)) (ov := .fmap (S.1.map encM) ((List.range S.1.length).map natV)) hn hg v rfl rfl hwl hfl m
  have htb := fun m => table_spec (wv := .fsl (decide (S.2.length = 1)) S.2.length (S.2.map .str)) (ov := .fmap (S.1.map encM) ((List.range S.1.length).map natV)) hn hg v rfl rfl w m
  have hdc : (dsV rows w).closed = true := by
    unfold dsV encM
    split
    · rfl
    · simp [AV.closed, encM_closed]
  rw [monV, brand_monoid_number.call_eq _ _ _ (by simp [hn.closed, hg.closed])]
  simp [hn.closed, hg.closed, hn.one, hg.one, hdo, htb, hdc, hl]
  done
end Go.Proofs.Ythnpflkpjimkfaa

/-
  Monoid, Element, Idempotents: what the program returns. Conditions: none.
-/
namespace Go.Proofs.Ythnpflkpjimkfaa
open Go.AM
open Go.Proofs.Try (prog)
set_option linter.all false
set_option maxRecDepth 100000
set_option maxHeartbeats 8000000
theorem MW_of {rows : List (List Int)} {good : List Bool} {k : Nat} (v : VB rows good k) {S : SM} (h : madeB rows good k = some S) : MW (rowsM rows good k) k S := by
  have vm := VB_M v
  obtain ⟨h1, h2, h3⟩ := madeS_ok vm.n6 vm.k3 h
  exact ⟨h1, h2, h3⟩
def wdsV (S : SM) : AV := .fsl (decide (S.2.length = 1)) S.2.length (S.2.map .str)
end Go.Proofs.Ythnpflkpjimkfaa

/-
  BODIES OF FUNCTIONS OF THE PROGRAM AS SMALL OPERATIONS (written by gen.py; checked by the kernel against the program). Conditions: none.
-/
namespace Go.Proofs.Ythnpflkpjimkfaa
open Go.AM
open Go.Proofs.Try (prog)
set_option maxRecDepth 100000
set_option linter.all false
end Go.Proofs.Ythnpflkpjimkfaa

/-
  WHAT WORDS DO, AS STRINGS OF STATES: the specification's. Conditions: none.
-/
namespace Go.Proofs.Ythnpflkpjimkfaa
open Go.AM
open Go.Proofs.Try (prog)
set_option linter.all false
set_option maxRecDepth 100000
set_option maxHeartbeats 8000000
def bysV (l : List UInt8) : List AV := l.map fun b => .int .u8 (b.toNat : Nat)
@[simp] theorem bysV_len (l : List UInt8) : (bysV l).length = l.length := by simp [bysV]
def doF (f : Nat → Nat) (c : Nat) : List UInt8 := (List.range c).map fun s => UInt8.ofNat (f s)
def encD (n : Nat) (t : List Nat) : List UInt8 := doF (fun s => t.getD s 0) n
@[simp] theorem doF_len (f : Nat → Nat) (c : Nat) : (doF f c).length = c := by simp [doF]
theorem ofNat6 {x : Nat} (h : x < 256) : (UInt8.ofNat x).toNat = x := by simp; omega
theorem goL_lt6 {rows : List (List Int)} {good : List Bool} {k : Nat} (v : VB rows good k) {w : List UInt8} (hw : okW k w) {s : Nat} (hs : s < rows.length) : goL rows w s < rows.length := by
  have := goL_lt v w w.length 0 s (by omega) hs ((letF_iff k w).2 hw)
  rw [goF_goL rows w w.length 0 s (by omega)] at this
  simpa using this
end Go.Proofs.Ythnpflkpjimkfaa

/-
  ALL ELEMENTS OF A MONOID: the specification's search. Conditions: none.
-/
namespace Go.Proofs.Ythnpflkpjimkfaa
open Go.AM
open Go.Proofs.Try (prog)
set_option linter.all false
set_option maxRecDepth 100000
set_option maxHeartbeats 8000000
structure Dw (h : Nat → Option AObj) (M : Nat) (dv wv : AV) (n : Nat) (S : SM) (lo hi : Nat) : Prop where
  o : h M = some (.cells [dv, wv])
  d : Nf h dv ((S.1.map (encD n)).map .str) lo hi
  w : Nf h wv (S.2.map .str) lo hi
  dj : ∀ y, objId dv = some y → objId wv ≠ some y
  z : h 0 = some (.cells [.nils, .nils])
  mo : M < lo ∧ 0 < M
  x : isF dv = decide (S.2.length = 1) ∧ isF wv = decide (S.2.length = 1)
end Go.Proofs.Ythnpflkpjimkfaa

/-
  PRODUCTS, ELEMENTS, IDEMPOTENTS: the specification's; lists of strings that are the same. Conditions: none.
-/
namespace Go.Proofs.Ythnpflkpjimkfaa
open Go.AM
open Go.Proofs.Try (prog)
set_option linter.all false
set_option maxRecDepth 100000
set_option maxHeartbeats 8000000
theorem goL_app (rows : List (List Int)) : ∀ (u w : List UInt8) (s : Nat), goL rows (u ++ w) s = goL rows w (goL rows u s)
  | [], w, s => rfl
  | c :: u, w, s => by rw [List.cons_append, goL, goL, goL_app rows u w]
section
variable {rows : List (List Int)} {good : List Bool} {k : Nat} {S : SM}
end
end Go.Proofs.Ythnpflkpjimkfaa

/-
  ELEMENTS AND IDEMPOTENTS: the specification's; lists of strings that are the same. Conditions: none.
-/
namespace Go.Proofs.Ythnpflkpjimkfaa
open Go.AM
open Go.Proofs.Try (prog)
set_option linter.all false
set_option maxRecDepth 100000
set_option maxHeartbeats 8000000
def IsS (v : AV) (l : List (List UInt8)) : Prop := (v = .nils ∧ l = []) ∨ ∃ ex, v = .fsl ex l.length (l.map .str)
theorem IsS.len {v : AV} {l : List (List UInt8)} (h : IsS v l) : lenSl v = some (.int .i64 l.length) := by rcases h with ⟨rfl, rfl⟩ | ⟨_, rfl⟩ <;> rfl
theorem IsS.closed {v : AV} {l : List (List UInt8)} (h : IsS v l) : v.closed = true := by rcases h with ⟨rfl, rfl⟩ | ⟨_, rfl⟩ <;> rfl
theorem IsS.one {v : AV} {l : List (List UInt8)} (h : IsS v l) : v.one = true := by rcases h with ⟨rfl, rfl⟩ | ⟨_, rfl⟩ <;> rfl
theorem IsS.idx {v : AV} {l : List (List UInt8)} (h : IsS v l) {i : Nat} (hi : i < l.length) (k : IntKind) : idxSl 1 v (.int k (i : Int)) = some (.fptr ((l.map .str).drop i)) := by
  rcases h with ⟨rfl, rfl⟩ | ⟨_, rfl⟩
  · simp at hi
  · simp [hi]
theorem str_head {l : List (List UInt8)} {i : Nat} (hi : i < l.length) : ((l.map AV.str).drop i).head? = some (.str l[i]) := by
  rw [List.head?_drop]; simp [hi]
end Go.Proofs.Ythnpflkpjimkfaa

/-
  BODIES OF FUNCTIONS OF THE PROGRAM AS SMALL OPERATIONS (written by gen.py; checked by the kernel against the program). Conditions: none.
-/
namespace Go.Proofs.Ythnpflkpjimkfaa
open Go.AM
open Go.Proofs.Try (prog)
set_option maxRecDepth 100000
set_option linter.all false
end Go.Proofs.Ythnpflkpjimkfaa

/-
  ALL PRODUCTS: the specification's table. Conditions: none.
-/
namespace Go.Proofs.Ythnpflkpjimkfaa
open Go.AM
open Go.Proofs.Try (prog)
set_option linter.all false
set_option maxRecDepth 100000
set_option maxHeartbeats 8000000
def pr (rows : List (List Int)) (S : SM) (i j : Nat) : Nat := numM rows S (wrd S i ++ wrd S j)
end Go.Proofs.Ythnpflkpjimkfaa

/-
  BELOW: the elements that are reached by writing letters before or after. The law. Conditions: none.
-/
namespace Go.Proofs.Ythnpflkpjimkfaa
open Go.AM
open Go.Proofs.Try (prog)
set_option linter.all false
set_option maxRecDepth 100000
set_option maxHeartbeats 4000000
inductive Rch (stp : Nat → List Nat) (i : Nat) : Nat → Prop
  | refl : Rch stp i i
  | step {j k : Nat} : Rch stp i j → k ∈ stp j → Rch stp i k
abbrev VP := List Bool × List Nat
def vis1 (P : VP) (j : Nat) : VP := if bnth P.1 j = true then P else (P.1.set j true, P.2 ++ [j])
def visF (l : List Nat) (P : VP) : VP := l.foldl vis1 P
def vis (stp : Nat → List Nat) : Nat → VP → List Bool
  | 0, P => P.1
  | f + 1, P => match P.2 with
    | [] => P.1
    | x :: _ => vis stp f ((visF (stp x) P).1, (visF (stp x) P).2.drop 1)
def cf (row : List Bool) : Nat := row.countP fun b => !b
theorem cf_set : ∀ {row : List Bool} {j : Nat}, j < row.length → bnth row j = false → cf (row.set j true) + 1 = cf row
  | [], j, h, _ => by simp at h
  | b :: row, 0, _, h => by
    simp [bnth] at h
    subst h
    simp [cf]
  | b :: row, j + 1, h, h2 => by
    have := cf_set (row := row) (j := j) (by simpa using h) (by simpa [bnth] using h2)
    simp only [cf, List.set_cons_succ, List.countP_cons] at this ⊢
    omega
structure VI (n : Nat) (stp : Nat → List Nat) (i : Nat) (P : VP) : Prop where
  l : P.1.length = n
  m : bnth P.1 i = true
  r : ∀ j, j < n → bnth P.1 j = true → Rch stp i j
  t : ∀ j ∈ P.2, j < n ∧ bnth P.1 j = true
  c : ∀ j, j < n → bnth P.1 j = true → j ∈ P.2 ∨ ∀ k ∈ stp j, bnth P.1 k = true
section
variable {n : Nat} {stp : Nat → List Nat} {i : Nat}
theorem visF_inv (hs : ∀ j, ∀ k ∈ stp j, k < n) {x : Nat} (hx : Rch stp i x) : ∀ (l : List Nat) (P : VP), (∀ k ∈ l, k ∈ stp x) → VI n stp i P → P.2.head? = some x → VI n stp i (visF l P) ∧ (visF l P).2.head? = some x ∧ (∀ k, bnth P.1 k = true → bnth (visF l P).1 k = true) ∧ (∀ k ∈ l, bnth (visF l P).1 k = true) ∧ cf (visF l P).1 + (visF l P).2.length = cf P.1 + P.2.length
  | [], P, _, h, hh => ⟨h, hh, fun _ e => e, by simp, rfl⟩
  | k :: l, P, hl, h, hh => by
    have hk := hl k (by simp)
    have hkn := hs x k hk
    have key : VI n stp i (vis1 P k) ∧ (vis1 P k).2.head? = some x ∧ (∀ k', bnth P.1 k' = true → bnth (vis1 P k).1 k' = true) ∧ bnth (vis1 P k).1 k = true ∧ cf (vis1 P k).1 + (vis1 P k).2.length = cf P.1 + P.2.length := by
      unfold vis1
      by_cases q : bnth P.1 k = true
      · rw [if_pos q]
        exact ⟨h, hh, fun _ e => e, q, rfl⟩
      · rw [if_neg q]
        have q' : bnth P.1 k = false := by simpa using q
        have hkl : k < P.1.length := by rw [h.l]; exact hkn
        have st : ∀ k', bnth (P.1.set k true) k' = if k = k' then true else bnth P.1 k' := fun k' => bnth_set hkl
        have mono : ∀ k', bnth P.1 k' = true → bnth (P.1.set k true) k' = true := fun k' e => by rw [st]; split; rfl; exact e
        refine ⟨⟨by simp [h.l], mono i h.m, fun j hj e => ?_, fun j hj => ?_, fun j hj e => ?_⟩, ?_, mono, by rw [st]; simp, ?_⟩
        · rw [st] at e
          by_cases w : k = j
          · subst w; exact hx.step hk
          · rw [if_neg w] at e; exact h.r j hj e
        · rcases List.mem_append.1 hj with hj | hj
          · exact ⟨(h.t j hj).1, mono j (h.t j hj).2⟩
          · simp at hj; subst hj; exact ⟨hkn, by rw [st]; simp⟩
        · rw [st] at e
          by_cases w : k = j
          · subst w; left; simp
          · rw [if_neg w] at e
            rcases h.c j hj e with h1 | h1
            · left; exact List.mem_append_left _ h1
            · right; exact fun k' hk' => mono k' (h1 k' hk')
        · show (P.2 ++ [k]).head? = some x
          cases e : P.2 with
          | nil => rw [e] at hh; cases hh
          | cons y t => rw [e] at hh; simpa using hh
        · have := cf_set hkl q'
          simp only [List.length_append, List.length_singleton]
          omega
    obtain ⟨k1, k2, k3, k4, k5⟩ := key
    obtain ⟨g1, g2, g3, g4, g5⟩ := visF_inv hs hx l (vis1 P k) (fun k' hk' => hl k' (by simp [hk'])) k1 k2
    refine ⟨g1, g2, fun k' e => g3 k' (k3 k' e), fun k' hk' => ?_, by simp only [visF, List.foldl_cons] at g5 ⊢; omega⟩
    rcases List.mem_cons.1 hk' with rfl | hk'
    · exact g3 _ k4
    · exact g4 k' hk'
theorem vis_law (hs : ∀ j, ∀ k ∈ stp j, k < n) (hi : i < n) : ∀ (f : Nat) (P : VP), VI n stp i P → cf P.1 + P.2.length < f → (vis stp f P).length = n ∧ ∀ j, j < n → (bnth (vis stp f P) j = true ↔ Rch stp i j)
  | 0, P, _, h => by omega
  | f + 1, P, h, hf => by
    rw [vis]
    cases e : P.2 with
    | nil =>
      refine ⟨h.l, fun j hj => ⟨h.r j hj, fun r => ?_⟩⟩
      have : ∀ j, Rch stp i j → j < n ∧ bnth P.1 j = true := by
        intro j r
        induction r with
        | refl => exact ⟨hi, h.m⟩
        | step r1 hk ih =>
          rename_i j' k'
          refine ⟨hs _ _ hk, ?_⟩
          rcases h.c j' ih.1 ih.2 with h1 | h1
          · rw [e] at h1; simp at h1
          · exact h1 _ hk
      exact (this j r).2
    | cons x t =>
      have hh : P.2.head? = some x := by rw [e]; rfl
      have hx := h.t x (by rw [e]; simp)
      obtain ⟨g1, g2, g3, g4, g5⟩ := visF_inv hs (h.r x hx.1 hx.2) (stp x) P (fun k hk => hk) h hh
      simp only []
      generalize visF (stp x) P = Q at *
      obtain ⟨Q1, Q2⟩ := Q
      cases Q2 with
      | nil => simp at g2
      | cons y Q2 =>
        simp at g2
        subst g2
        refine vis_law hs hi f (Q1, (y :: Q2).drop 1) ⟨g1.l, g1.m, g1.r, fun j hj => g1.t j (by simp at hj; simp [hj]), fun j hj ej => ?_⟩ (by simp only [List.length_cons, List.drop_succ_cons, List.drop_zero] at g5 ⊢; omega)
        by_cases w : j = y
        · subst w; right; exact g4
        · rcases g1.c j hj ej with h1 | h1
          · left
            simp at h1 ⊢
            rcases h1 with h1 | h1
            · exact absurd h1 w
            · exact h1
          · right; exact h1
end
section
variable {rows : List (List Int)} {k : Nat} {S : SM}
def stpM (rows : List (List Int)) (S : SM) (k : Nat) (lf rt : Bool) (i : Nat) : List Nat := (List.range k).flatMap fun a => (if lf = true then [numM rows S (ltr a ++ wrd S i)] else []) ++ (if rt = true then [numM rows S (wrd S i ++ ltr a)] else [])
def Blw (rows : List (List Int)) (S : SM) (k : Nat) (lf rt : Bool) (i j : Nat) : Prop := ∃ u v, okW k u ∧ okW k v ∧ (lf = false → u = []) ∧ (rt = false → v = []) ∧ numM rows S (u ++ wrd S i ++ v) = j
theorem mv6_congr {u u' w w' : List UInt8} (h1 : ∀ s, s < rows.length → goL rows u s = goL rows u' s) (hlt : ∀ s, s < rows.length → goL rows u' s < rows.length) (h2 : ∀ s, s < rows.length → goL rows w s = goL rows w' s) : ∀ s, s < rows.length → goL rows (u ++ w) s = goL rows (u' ++ w') s := fun s hs => by
  have ga : ∀ (u w : List UInt8) (s : Nat), goL rows (u ++ w) s = goL rows w (goL rows u s) := by
    intro u
    induction u with
    | nil => intro w s; rfl
    | cons c u ih => intro w s; rw [List.cons_append, goL, goL, ih]
  rw [ga, ga, h1 s hs, h2 _ (hlt s hs)]
theorem mv6_ext {u u' : List UInt8} (h : ∀ s, s < rows.length → goL rows u s = goL rows u' s) : mv6 rows u = mv6 rows u' := by
  rw [mv6, mv6, mvF, mvF]
  refine List.map_congr_left fun s hs => ?_
  by_cases q : s < rows.length
  · rw [if_pos q, if_pos q, h s q]
  · rw [if_neg q, if_neg q]
theorem mv6_at {u u' : List UInt8} (n6 : rows.length ≤ 6) (h : mv6 rows u = mv6 rows u') : ∀ s, s < rows.length → goL rows u s = goL rows u' s := fun s hs => by
  have e1 : (mv6 rows u).getD s 0 = goL rows u s := mvF_at (by omega) hs
  have e2 : (mv6 rows u').getD s 0 = goL rows u' s := mvF_at (by omega) hs
  rw [← e1, ← e2, h]
variable {good : List Bool}
theorem goL_lt7 (v : VB rows good k) {w : List UInt8} (hw : okW k w) {s : Nat} (hs : s < rows.length) : goL rows w s < rows.length := by
  have := goL_lt v w w.length 0 s (by omega) hs ((letF_iff k w).2 hw)
  rw [goF_goL rows w w.length 0 s (by omega)] at this
  simpa using this
theorem num_congr (v : VB rows good k) {u w w' x : List UInt8} (hu : okW k u) (hw : okW k w) (hw' : okW k w') (h : mv6 rows w = mv6 rows w') : numM rows S (u ++ w ++ x) = numM rows S (u ++ w' ++ x) := by
  have h1 := mv6_at v.n6 h
  have : mv6 rows (u ++ w ++ x) = mv6 rows (u ++ w' ++ x) := mv6_ext (mv6_congr (mv6_congr (fun _ _ => rfl) (fun s hs => goL_lt7 v hu hs) h1) (fun s hs => goL_lt7 v (okW_app hu hw') hs) (fun _ _ => rfl))
  rw [numM, numM, this]
theorem wrd_num (v : VB rows good k) (W : MW rows k S) {w : List UInt8} (hw : okW k w) : mv6 rows (wrd S (numM rows S w)) = mv6 rows w := by
  have h1 := W.at v.n6 v.k3 hw
  obtain ⟨_, _, _, h2⟩ := W.wok (W.lt v.n6 v.k3 hw)
  rw [h1] at h2
  exact (Option.some.inj h2).symm
theorem okW_ltr {a : Nat} (ha : a < k) (k3 : k ≤ 3) : okW k (ltr a) := by
  have := okW_ext (okW_nil k) ha k3
  simpa [extL] using this
theorem stpM_lt (v : VB rows good k) (W : MW rows k S) {lf rt : Bool} {i : Nat} (hi : i < S.1.length) : ∀ j ∈ stpM rows S k lf rt i, j < S.1.length := by
  intro j hj
  obtain ⟨_, w2, _, _⟩ := W.wok hi
  simp only [stpM, List.mem_flatMap, List.mem_range] at hj
  obtain ⟨a, ha, hj⟩ := hj
  have ho := okW_ltr ha v.k3
  rcases List.mem_append.1 hj with hj | hj
  · split at hj
    · simp at hj; subst hj; exact W.lt v.n6 v.k3 (okW_app ho w2)
    · simp at hj
  · split at hj
    · simp at hj; subst hj; exact W.lt v.n6 v.k3 (okW_app w2 ho)
    · simp at hj
theorem blw_of_rch (v : VB rows good k) (W : MW rows k S) {lf rt : Bool} {i j : Nat} (hi : i < S.1.length) (r : Rch (stpM rows S k lf rt) i j) : Blw rows S k lf rt i j := by
  obtain ⟨_, wi, _, _⟩ := W.wok hi
  induction r with
  | refl => exact ⟨[], [], okW_nil k, okW_nil k, fun _ => rfl, fun _ => rfl, by simpa using W.self hi⟩
  | step r1 hk ih =>
    rename_i j k'
    obtain ⟨u, x, hu, hx, h1, h2, e⟩ := ih
    have hok := okW_app (okW_app hu wi) hx
    have hj : mv6 rows (wrd S j) = mv6 rows (u ++ wrd S i ++ x) := by rw [← e]; exact wrd_num v W hok
    have hjl : j < S.1.length := by rw [← e]; exact W.lt v.n6 v.k3 hok
    obtain ⟨_, wj, _, _⟩ := W.wok hjl
    simp only [stpM, List.mem_flatMap, List.mem_range] at hk
    obtain ⟨a, ha, hk⟩ := hk
    have ho := okW_ltr ha v.k3
    rcases List.mem_append.1 hk with hk | hk
    · split at hk
      · rename_i hl
        simp at hk
        refine ⟨ltr a ++ u, x, okW_app ho hu, hx, fun q => (by rw [hl] at q; cases q), h2, ?_⟩
        have := num_congr (S := S) (x := []) v ho wj hok hj
        simp only [List.append_nil] at this
        rw [hk, this]; simp only [List.append_assoc]
      · simp at hk
    · split at hk
      · rename_i hl
        simp at hk
        refine ⟨u, x ++ ltr a, hu, okW_app hx ho, h1, fun q => (by rw [hl] at q; cases q), ?_⟩
        have := num_congr (S := S) (u := []) (x := ltr a) v (okW_nil k) wj hok hj
        simp only [List.nil_append] at this
        rw [hk, this]; simp only [List.append_assoc]
      · simp at hk
theorem rch_of_blw (v : VB rows good k) (W : MW rows k S) {lf rt : Bool} {i j : Nat} (hi : i < S.1.length) (b : Blw rows S k lf rt i j) : Rch (stpM rows S k lf rt) i j := by
  obtain ⟨_, wi, _, _⟩ := W.wok hi
  have left : ∀ (u : List UInt8), okW k u → (lf = false → u = []) → Rch (stpM rows S k lf rt) i (numM rows S (u ++ wrd S i)) := by
    intro u
    induction u with
    | nil => intro _ _; rw [List.nil_append, W.self hi]; exact .refl
    | cons c u ih =>
      intro hu hl
      have hlt : lf = true := by cases lf with
        | true => rfl
        | false => exact absurd (hl rfl) (by simp)
      have hu' : okW k u := fun b hb => hu b (by simp [hb])
      have hc := hu c (by simp)
      have r := ih hu' (fun q => by rw [hlt] at q; cases q)
      refine r.step ?_
      have hok := okW_app hu' wi
      have hjl := W.lt v.n6 v.k3 hok
      obtain ⟨_, wj, _, _⟩ := W.wok hjl
      simp only [stpM, List.mem_flatMap, List.mem_range]
      refine ⟨c.toNat - 97, hc.2, List.mem_append_left _ ?_⟩
      rw [if_pos hlt, ← chr_ltr hc.1]
      have := num_congr (S := S) (u := [c]) (x := []) v (fun b hb => hu b (by simp at hb; simp [hb])) wj hok (wrd_num v W hok)
      simp only [List.append_nil] at this
      rw [this]; simp
  obtain ⟨u, x, hu, hx, h1, h2, e⟩ := b
  have right : ∀ (x y : List UInt8), okW k x → okW k y → (rt = false → x = []) → Rch (stpM rows S k lf rt) i (numM rows S (u ++ wrd S i ++ y)) → Rch (stpM rows S k lf rt) i (numM rows S (u ++ wrd S i ++ y ++ x)) := by
    intro x
    induction x with
    | nil => intro y _ _ _ r; rw [List.append_nil]; exact r
    | cons c x ih =>
      intro y hx hy hl r
      have hrt : rt = true := by cases rt with
        | true => rfl
        | false => exact absurd (hl rfl) (by simp)
      have hc := hx c (by simp)
      have hx' : okW k x := fun b hb => hx b (by simp [hb])
      have hc1 : okW k [c] := fun b hb => hx b (by simp at hb; simp [hb])
      have e1 : u ++ wrd S i ++ y ++ c :: x = u ++ wrd S i ++ (y ++ [c]) ++ x := by simp
      rw [e1]
      refine ih (y ++ [c]) hx' (okW_app hy hc1) (fun q => by rw [hrt] at q; cases q) (r.step ?_)
      have hok := okW_app (okW_app hu wi) hy
      have hjl := W.lt v.n6 v.k3 hok
      obtain ⟨_, wj, _, _⟩ := W.wok hjl
      simp only [stpM, List.mem_flatMap, List.mem_range]
      refine ⟨c.toNat - 97, hc.2, List.mem_append_right _ ?_⟩
      rw [if_pos hrt, ← chr_ltr hc.1]
      have := num_congr (S := S) (u := []) (x := [c]) v (okW_nil k) wj hok (wrd_num v W hok)
      simp only [List.nil_append] at this
      rw [this]; simp
  have := right x [] hx (okW_nil k) h2 (by rw [List.append_nil]; exact left u hu h1)
  rw [List.append_nil, e] at this
  exact this
end
end Go.Proofs.Ythnpflkpjimkfaa

/-
  BODIES OF FUNCTIONS OF THE PROGRAM AS SMALL OPERATIONS (written by gen.py; checked by the kernel against the program). Conditions: none.
-/
namespace Go.Proofs.Ythnpflkpjimkfaa
open Go.AM
open Go.Proofs.Try (prog)
set_option maxRecDepth 100000
set_option linter.all false
namespace brand_monoid_classes
noncomputable section
variable (K : List Item) (s : St)
def b : Code := (Try.f89.body).getD .skip
theorem hf : prog.funcs[89]? = some Try.f89 := by kernel_rfl
def r0 := findReg b 0
def r1 := findReg b 1
def r2 := findReg b 2
def r3 := findReg b 3
def r4 := findReg b 4
def k0 := findBlk b 0
def l0 := loopOf k0
def L0 (x0 x7 x8 x9 x28 x29 : AV) (m : Mem) (K : List Item) : Option Res := den prog ann 89 (.code l0 :: .inLoop l0 :: .inBlock 0 :: K) ⟨[(0, x0), (7, x7), (8, x8), (9, x9), (28, x28), (29, x29)], 76, m⟩
def r5 := findReg b 5
def i0 := findCond b 0
def i0t := thenOf i0
def i0e := elseOf i0
def k1 := findBlk b 1
def r6 := findReg b 6
def r7 := findReg b 7
def i1 := findCond b 1
def i1t := thenOf i1
def i1e := elseOf i1
def r8 := findReg b 8
def r9 := findReg b 9
def k2 := findBlk b 2
def l2 := loopOf k2
def L2 (x0 x7 x8 x9 x10 x11 x28 x29 x39 x40 x41 : AV) (m : Mem) (K : List Item) : Option Res := den prog ann 89 (.code l2 :: .inLoop l2 :: .inBlock 2 :: K) ⟨[(0, x0), (7, x7), (8, x8), (9, x9), (10, x10), (11, x11), (28, x28), (29, x29), (39, x39), (40, x40), (41, x41)], 76, m⟩
def r10 := findReg b 10
def i2 := findCond b 2
def i2t := thenOf i2
def i2e := elseOf i2
def k3 := findBlk b 3
def r11 := findReg b 11
def r12 := findReg b 12
def i3 := findCond b 3
def i3t := thenOf i3
def i3e := elseOf i3
def r13 := findReg b 13
def r14 := findReg b 14
def r15 := findReg b 15
def r16 := findReg b 16
def r17 := findReg b 17
theorem b_eq : den prog ann 89 (.code b :: K) s = den prog ann 89 (.code r0 :: .code r1 :: .code r2 :: .code r3 :: .code r4 :: .code k0 :: .code r17 :: .code .ret :: K) s := den_flat hf (l := [r0, r1, r2, r3, r4, k0, r17, .ret]) (by kernel_rfl) K s
theorem r0_eq : den prog ann 89 (.code r0 :: K) s = mreg prog ann 89 none [] none [] [qF 6 fun s => some (.nils)] K s := (den_reg hf _ K s).trans (by kernel_rfl)
theorem r1_eq : den prog ann 89 (.code r1 :: K) s = mreg prog ann 89 none [] none [] [qC 14 0,qC 15 1,qC 16 2,⟨some 17, none, .c 0 (fun s => (.fn 96 [] [])) fun s => [(s.get 14), (s.get 15), (s.get 16)]⟩,qC 7 17] K s := (den_reg hf _ K s).trans (by kernel_rfl)
theorem r2_eq : den prog ann 89 (.code r2 :: K) s = mreg prog ann 89 none [] none [] [qC 18 0,qA 19 nilA 18,qA 20 (fieldA 2) 19,qA 21 (loadF false 1) 20,qA 22 lenSl 21,⟨some 23, none, .w false none fun s => makeA 1 1 (.bool false) s.m (s.get 22) (s.get 22)⟩,qC 8 23] K s := (den_reg hf _ K s).trans (by kernel_rfl)
theorem r3_eq : den prog ann 89 (.code r3 :: K) s = mreg prog ann 89 none [] none [] [qF 9 fun s => some (.nils)] K s := (den_reg hf _ K s).trans (by kernel_rfl)
theorem r4_eq : den prog ann 89 (.code r4 :: K) s = mreg prog ann 89 none [] none [] [qC 24 0,qA 25 nilA 24,qA 26 (fieldA 2) 25,qA 27 (loadF false 1) 26,qA 28 lenSl 27,qF 29 fun s => some (.int .i64 0)] K s := (den_reg hf _ K s).trans (by kernel_rfl)
theorem k0_eq (K : List Item) (t : List (Nat × AV)) (m : Mem) : den prog ann 89 (.code k0 :: K) ⟨t, 76, m⟩ = L0 (get t 0) (get t 7) (get t 8) (get t 9) (get t 28) (get t 29) m K := den_loop_enter hf (b := l0) (id := 5) (l := [0, 7, 8, 9, 28, 29]) (by kernel_rfl) (by kernel_rfl) (by kernel_rfl) K _
theorem l0_eq (K : List Item) (t : List (Nat × AV)) (m : Mem) : den prog ann 89 (.inLoop l0 :: .inBlock 0 :: K) ⟨t, 76, m⟩ = L0 (get t 0) (get t 7) (get t 8) (get t 9) (get t 28) (get t 29) m K := den_loop_again hf (id := 5) (l := [0, 7, 8, 9, 28, 29]) (by kernel_rfl) (by kernel_rfl) (.inBlock 0 :: K) _
theorem L0_eq (x0 x7 x8 x9 x28 x29 : AV) (m : Mem) (K : List Item) : L0 x0 x7 x8 x9 x28 x29 m K = den prog ann 89 (.code r5 :: .code i0 :: .code k1 :: .code r16 :: .inLoop l0 :: .inBlock 0 :: K) ⟨[(0, x0), (7, x7), (8, x8), (9, x9), (28, x28), (29, x29)], 76, m⟩ := den_flat hf (l := [r5, i0, k1, r16]) (by kernel_rfl) _ _
theorem r5_eq : den prog ann 89 (.code r5 :: K) s = mreg prog ann 89 (some [0, 7, 8, 9, 28, 29]) [] none [] [qB 30 (binA prog .lss 3) 29 28] K s := (den_reg hf _ K s).trans (by kernel_rfl)
theorem i0_eq : den prog ann 89 (.code i0 :: K) s = ifV prog ann 89 30 i0t i0e K s (s.get 30) := den_if hf (by kernel_rfl) K s
theorem i0t_eq : den prog ann 89 (.code i0t :: K) s = den prog ann 89 (K) s := den_flat hf (l := []) (by kernel_rfl) K s
theorem i0e_eq : den prog ann 89 (.code i0e :: K) s = den prog ann 89 (.code (.exit 0) :: K) s := den_flat hf (l := [(.exit 0)]) (by kernel_rfl) K s
theorem k1_eq : den prog ann 89 (.code k1 :: K) s = den prog ann 89 (.code r6 :: .code r7 :: .code i1 :: .code r8 :: .code r9 :: .code k2 :: .code r15 :: .inBlock 1 :: K) s := den_blk hf (b := blkOf k1) (l := [r6, r7, i1, r8, r9, k2, r15]) (by kernel_rfl) (by kernel_rfl) K s
theorem r6_eq : den prog ann 89 (.code r6 :: K) s = mreg prog ann 89 none [] none [] [qC 31 29,qC 10 31] K s := (den_reg hf _ K s).trans (by kernel_rfl)
theorem r7_eq : den prog ann 89 (.code r7 :: K) s = mreg prog ann 89 none [] none [] [qC 32 8,qC 33 10,qB 34 (idxSl 1) 32 33,qF 35 fun s => loadA false 1 s.m (s.get 34)] K s := (den_reg hf _ K s).trans (by kernel_rfl)
theorem i1_eq : den prog ann 89 (.code i1 :: K) s = ifV prog ann 89 35 i1t i1e K s (s.get 35) := den_if hf (by kernel_rfl) K s
theorem i1t_eq : den prog ann 89 (.code i1t :: K) s = den prog ann 89 (.code (.exit 1) :: K) s := den_flat hf (l := [(.exit 1)]) (by kernel_rfl) K s
theorem i1e_eq : den prog ann 89 (.code i1e :: K) s = den prog ann 89 (K) s := den_flat hf (l := []) (by kernel_rfl) K s
theorem r8_eq : den prog ann 89 (.code r8 :: K) s = mreg prog ann 89 none [] none [] [qF 11 fun s => some (.nils)] K s := (den_reg hf _ K s).trans (by kernel_rfl)
theorem r9_eq : den prog ann 89 (.code r9 :: K) s = mreg prog ann 89 none [] none [] [qC 36 0,qA 37 nilA 36,qA 38 (fieldA 2) 37,qA 39 (loadF false 1) 38,qA 40 lenSl 39,qF 41 fun s => some (.int .i64 0)] K s := (den_reg hf _ K s).trans (by kernel_rfl)
theorem k2_eq (K : List Item) (t : List (Nat × AV)) (m : Mem) : den prog ann 89 (.code k2 :: K) ⟨t, 76, m⟩ = L2 (get t 0) (get t 7) (get t 8) (get t 9) (get t 10) (get t 11) (get t 28) (get t 29) (get t 39) (get t 40) (get t 41) m K := den_loop_enter hf (b := l2) (id := 10) (l := [0, 7, 8, 9, 10, 11, 28, 29, 39, 40, 41]) (by kernel_rfl) (by kernel_rfl) (by kernel_rfl) K _
theorem l2_eq (K : List Item) (t : List (Nat × AV)) (m : Mem) : den prog ann 89 (.inLoop l2 :: .inBlock 2 :: K) ⟨t, 76, m⟩ = L2 (get t 0) (get t 7) (get t 8) (get t 9) (get t 10) (get t 11) (get t 28) (get t 29) (get t 39) (get t 40) (get t 41) m K := den_loop_again hf (id := 10) (l := [0, 7, 8, 9, 10, 11, 28, 29, 39, 40, 41]) (by kernel_rfl) (by kernel_rfl) (.inBlock 2 :: K) _
theorem L2_eq (x0 x7 x8 x9 x10 x11 x28 x29 x39 x40 x41 : AV) (m : Mem) (K : List Item) : L2 x0 x7 x8 x9 x10 x11 x28 x29 x39 x40 x41 m K = den prog ann 89 (.code r10 :: .code i2 :: .code k3 :: .code r14 :: .inLoop l2 :: .inBlock 2 :: K) ⟨[(0, x0), (7, x7), (8, x8), (9, x9), (10, x10), (11, x11), (28, x28), (29, x29), (39, x39), (40, x40), (41, x41)], 76, m⟩ := den_flat hf (l := [r10, i2, k3, r14]) (by kernel_rfl) _ _
theorem r10_eq : den prog ann 89 (.code r10 :: K) s = mreg prog ann 89 (some [0, 7, 8, 9, 10, 11, 28, 29, 39, 40, 41]) [] none [] [qB 42 (binA prog .lss 3) 41 40] K s := (den_reg hf _ K s).trans (by kernel_rfl)
theorem i2_eq : den prog ann 89 (.code i2 :: K) s = ifV prog ann 89 42 i2t i2e K s (s.get 42) := den_if hf (by kernel_rfl) K s
theorem i2t_eq : den prog ann 89 (.code i2t :: K) s = den prog ann 89 (K) s := den_flat hf (l := []) (by kernel_rfl) K s
theorem i2e_eq : den prog ann 89 (.code i2e :: K) s = den prog ann 89 (.code (.exit 2) :: K) s := den_flat hf (l := [(.exit 2)]) (by kernel_rfl) K s
theorem k3_eq : den prog ann 89 (.code k3 :: K) s = den prog ann 89 (.code r11 :: .code r12 :: .code i3 :: .inBlock 3 :: K) s := den_blk hf (b := blkOf k3) (l := [r11, r12, i3]) (by kernel_rfl) (by kernel_rfl) K s
theorem r11_eq : den prog ann 89 (.code r11 :: K) s = mreg prog ann 89 none [] none [] [qC 43 41,qB 44 (idxSl 1) 39 41,qA 45 (loadF false 1) 44,qC 12 43,qC 13 45] K s := (den_reg hf _ K s).trans (by kernel_rfl)
theorem r12_eq : den prog ann 89 (.code r12 :: K) s = mreg prog ann 89 none [] none [] [qC 46 7,qC 47 10,qB 48 (idxSl 1) 46 47,qA 49 (loadF false 1) 48,qC 50 12,qB 51 (idxSl 1) 49 50,qA 52 (loadF false 1) 51,qC 53 52,⟨some 54, some (53, true), .v fun s => some (s.get 7)⟩,⟨some 55, some (53, true), .v fun s => some (s.get 12)⟩,⟨some 56, some (53, true), .v fun s => idxSl 1 (s.get 54) (s.get 55)⟩,⟨some 57, some (53, true), .v fun s => loadF false 1 (s.get 56)⟩,⟨some 58, some (53, true), .v fun s => some (s.get 10)⟩,⟨some 59, some (53, true), .v fun s => idxSl 1 (s.get 57) (s.get 58)⟩,⟨some 60, some (53, true), .v fun s => loadF false 1 (s.get 59)⟩,qF 61 fun s => pickA (s.get 53) (s.get 60) (.bool false)] K s := (den_reg hf _ K s).trans (by kernel_rfl)
theorem i3_eq : den prog ann 89 (.code i3 :: K) s = ifV prog ann 89 61 i3t i3e K s (s.get 61) := den_if hf (by kernel_rfl) K s
theorem i3t_eq : den prog ann 89 (.code i3t :: K) s = den prog ann 89 (.code r13 :: K) s := den_flat hf (l := [r13]) (by kernel_rfl) K s
theorem r13_eq : den prog ann 89 (.code r13 :: K) s = mreg prog ann 89 none [] none [] [qC 62 8,qC 63 12,qC 64 11,qC 65 13,qF 66 fun s => bslF 1 (bslA 1 1 [.str []] [(0, (s.get 65))]),⟨some 67, none, .w false none fun s => appendA 1 16 s.m (s.get 64) (s.get 66)⟩,qC 11 67,qB 68 (idxSl 1) 62 63,⟨none, none, .w false none fun s => stA false 1 s.m (s.get 68) (.bool true)⟩] K s := (den_reg hf _ K s).trans (by kernel_rfl)
theorem i3e_eq : den prog ann 89 (.code i3e :: K) s = den prog ann 89 (K) s := den_flat hf (l := []) (by kernel_rfl) K s
theorem r14_eq : den prog ann 89 (.code r14 :: K) s = mreg prog ann 89 (some [0, 7, 8, 9, 10, 11, 28, 29, 39, 40, 41]) [] none [] [qF 69 fun s => binA prog .add 3 (s.get 41) (.int .i64 1),qC 41 69] K s := (den_reg hf _ K s).trans (by kernel_rfl)
theorem r15_eq : den prog ann 89 (.code r15 :: K) s = mreg prog ann 89 (some [0, 7, 8, 9, 11, 28, 29]) [11] none [] [qC 70 9,qC 71 11,qF 72 fun s => bslF 1 (bslA 1 1 [.nils] [(0, (s.get 71))]),⟨some 73, none, .w false none fun s => appendA 1 24 s.m (s.get 70) (s.get 72)⟩,qC 9 73] K s := (den_reg hf _ K s).trans (by kernel_rfl)
theorem r16_eq : den prog ann 89 (.code r16 :: K) s = mreg prog ann 89 (some [0, 7, 8, 9, 28, 29]) [] none [] [qF 74 fun s => binA prog .add 3 (s.get 29) (.int .i64 1),qC 29 74] K s := (den_reg hf _ K s).trans (by kernel_rfl)
theorem r17_eq : den prog ann 89 (.code r17 :: K) s = mreg prog ann 89 (some [9]) [] none [] [qC 75 9,qC 6 75] K s := (den_reg hf _ K s).trans (by kernel_rfl)
theorem ret_eq : den prog ann 89 (.code .ret :: K) s = finM true [fun s => some (s.get 6)] s := (den_ret hf K s).trans (by kernel_rfl)
theorem nil_eq (s : St) : den prog ann 89 [] s = finM true [fun s => some (s.get 6)] s := (den_nil hf s).trans (by kernel_rfl)
theorem inBlock_eq (id : Nat) (K : List Item) (s : St) : den prog ann 89 (.inBlock id :: K) s = den prog ann 89 K s := den_inBlock hf id K s
theorem exit_eq (id : Nat) (K : List Item) (s : St) : den prog ann 89 (.code (.exit id) :: K) s = exitV prog ann 89 (exitTo id K) s := den_exitV hf id K s
theorem call_eq (v0 v1 v2 : AV) (m : Mem) (h : closedL [v0, v1, v2] = true) : denC prog ann 89 [v0, v1, v2] m = (den prog ann 89 [.code b] ⟨[(0, v0), (1, v1), (2, v2)], 76, Mem.empty⟩).bind fun r => some (r.1, m) := (denC_pure hf (b := b) (by kernel_rfl) (by kernel_rfl) (by kernel_rfl) h m).trans (by kernel_rfl)
theorem pure_eq : (ann 89).pure = true := by kernel_rfl
attribute [simp] b_eq r0_eq r1_eq r2_eq r3_eq r4_eq k0_eq l0_eq r5_eq i0_eq i0t_eq i0e_eq k1_eq r6_eq r7_eq i1_eq i1t_eq i1e_eq r8_eq r9_eq k2_eq l2_eq r10_eq i2_eq i2t_eq i2e_eq k3_eq r11_eq r12_eq i3_eq i3t_eq r13_eq i3e_eq r14_eq r15_eq r16_eq r17_eq ret_eq nil_eq inBlock_eq exit_eq pure_eq
end
end brand_monoid_classes
namespace brand_monoid_below
noncomputable section
variable (K : List Item) (s : St)
def b : Code := (Try.f96.body).getD .skip
theorem hf : prog.funcs[96]? = some Try.f96 := by kernel_rfl
def r0 := findReg b 0
def r1 := findReg b 1
def r2 := findReg b 2
def r3 := findReg b 3
def k0 := findBlk b 0
def l0 := loopOf k0
def L0 (x0 x1 x2 x7 x8 x27 x28 x29 : AV) (m : Mem) (K : List Item) : Option Res := den prog ann 96 (.code l0 :: .inLoop l0 :: .inBlock 0 :: K) ⟨[(0, x0), (1, x1), (2, x2), (7, x7), (8, x8), (27, x27), (28, x28), (29, x29)], 136, m⟩
def r4 := findReg b 4
def i0 := findCond b 0
def i0t := thenOf i0
def i0e := elseOf i0
def k1 := findBlk b 1
def r5 := findReg b 5
def r6 := findReg b 6
def k2 := findBlk b 2
def l2 := loopOf k2
def L2 (x0 x1 x2 x7 x8 x9 x10 x27 x28 x29 x41 x42 : AV) (m : Mem) (K : List Item) : Option Res := den prog ann 96 (.code l2 :: .inLoop l2 :: .inBlock 2 :: K) ⟨[(0, x0), (1, x1), (2, x2), (7, x7), (8, x8), (9, x9), (10, x10), (27, x27), (28, x28), (29, x29), (41, x41), (42, x42)], 136, m⟩
def r7 := findReg b 7
def i1 := findCond b 1
def i1t := thenOf i1
def i1e := elseOf i1
def k3 := findBlk b 3
def r8 := findReg b 8
def r9 := findReg b 9
def i2 := findCond b 2
def i2t := thenOf i2
def i2e := elseOf i2
def r10 := findReg b 10
def r11 := findReg b 11
def i3 := findCond b 3
def i3t := thenOf i3
def i3e := elseOf i3
def r12 := findReg b 12
def r13 := findReg b 13
def r14 := findReg b 14
def r15 := findReg b 15
def r16 := findReg b 16
def k4 := findBlk b 4
def l4 := loopOf k4
def L4 (x7 x8 x12 x82 x83 : AV) (m : Mem) (K : List Item) : Option Res := den prog ann 96 (.code l4 :: .inLoop l4 :: .inBlock 4 :: K) ⟨[(7, x7), (8, x8), (12, x12), (82, x82), (83, x83)], 136, m⟩
def r17 := findReg b 17
def i4 := findCond b 4
def i4t := thenOf i4
def i4e := elseOf i4
def k5 := findBlk b 5
def r18 := findReg b 18
def r19 := findReg b 19
def r20 := findReg b 20
def r21 := findReg b 21
def k6 := findBlk b 6
def l6 := loopOf k6
def L6 (x7 x8 x12 x13 x14 x82 x83 : AV) (m : Mem) (K : List Item) : Option Res := den prog ann 96 (.code l6 :: .inLoop l6 :: .inBlock 6 :: K) ⟨[(7, x7), (8, x8), (12, x12), (13, x13), (14, x14), (82, x82), (83, x83)], 136, m⟩
def r22 := findReg b 22
def i5 := findCond b 5
def i5t := thenOf i5
def i5e := elseOf i5
def k7 := findBlk b 7
def r24 := findReg b 24
def k8 := findBlk b 8
def l8 := loopOf k8
def L8 (x7 x8 x12 x13 x14 x82 x83 x109 x110 x111 : AV) (m : Mem) (K : List Item) : Option Res := den prog ann 96 (.code l8 :: .inLoop l8 :: .inBlock 8 :: K) ⟨[(7, x7), (8, x8), (12, x12), (13, x13), (14, x14), (82, x82), (83, x83), (109, x109), (110, x110), (111, x111)], 136, m⟩
def r25 := findReg b 25
def i6 := findCond b 6
def i6t := thenOf i6
def i6e := elseOf i6
def k9 := findBlk b 9
def r26 := findReg b 26
def r27 := findReg b 27
def i7 := findCond b 7
def i7t := thenOf i7
def i7e := elseOf i7
def r28 := findReg b 28
def r29 := findReg b 29
def r30 := findReg b 30
def r23 := findReg b 23
def r31 := findReg b 31
def r32 := findReg b 32
theorem b_eq : den prog ann 96 (.code b :: K) s = den prog ann 96 (.code r0 :: .code r1 :: .code r2 :: .code r3 :: .code k0 :: .code r15 :: .code r16 :: .code k4 :: .code r32 :: .code .ret :: K) s := den_flat hf (l := [r0, r1, r2, r3, k0, r15, r16, k4, r32, .ret]) (by kernel_rfl) K s
theorem r0_eq : den prog ann 96 (.code r0 :: K) s = mreg prog ann 96 none [] none [] [qF 6 fun s => some (.nils)] K s := (den_reg hf _ K s).trans (by kernel_rfl)
theorem r1_eq : den prog ann 96 (.code r1 :: K) s = mreg prog ann 96 none [] none [] [qC 17 0,qA 18 nilA 17,qA 19 (fieldA 2) 18,qA 20 (loadF false 1) 19,qA 21 lenSl 20,qC 7 21] K s := (den_reg hf _ K s).trans (by kernel_rfl)
theorem r2_eq : den prog ann 96 (.code r2 :: K) s = mreg prog ann 96 none [] none [] [qC 22 7,⟨some 23, none, .w false none fun s => makeA 1 24 (.nils) s.m (s.get 22) (s.get 22)⟩,qC 8 23] K s := (den_reg hf _ K s).trans (by kernel_rfl)
theorem r3_eq : den prog ann 96 (.code r3 :: K) s = mreg prog ann 96 none [] none [] [qC 24 0,qA 25 nilA 24,qA 26 (fieldA 2) 25,qA 27 (loadF false 1) 26,qA 28 lenSl 27,qF 29 fun s => some (.int .i64 0)] K s := (den_reg hf _ K s).trans (by kernel_rfl)
theorem k0_eq (K : List Item) (t : List (Nat × AV)) (m : Mem) : den prog ann 96 (.code k0 :: K) ⟨t, 136, m⟩ = L0 (get t 0) (get t 1) (get t 2) (get t 7) (get t 8) (get t 27) (get t 28) (get t 29) m K := den_loop_enter hf (b := l0) (id := 4) (l := [0, 1, 2, 7, 8, 27, 28, 29]) (by kernel_rfl) (by kernel_rfl) (by kernel_rfl) K _
theorem l0_eq (K : List Item) (t : List (Nat × AV)) (m : Mem) : den prog ann 96 (.inLoop l0 :: .inBlock 0 :: K) ⟨t, 136, m⟩ = L0 (get t 0) (get t 1) (get t 2) (get t 7) (get t 8) (get t 27) (get t 28) (get t 29) m K := den_loop_again hf (id := 4) (l := [0, 1, 2, 7, 8, 27, 28, 29]) (by kernel_rfl) (by kernel_rfl) (.inBlock 0 :: K) _
theorem L0_eq (x0 x1 x2 x7 x8 x27 x28 x29 : AV) (m : Mem) (K : List Item) : L0 x0 x1 x2 x7 x8 x27 x28 x29 m K = den prog ann 96 (.code r4 :: .code i0 :: .code k1 :: .code r14 :: .inLoop l0 :: .inBlock 0 :: K) ⟨[(0, x0), (1, x1), (2, x2), (7, x7), (8, x8), (27, x27), (28, x28), (29, x29)], 136, m⟩ := den_flat hf (l := [r4, i0, k1, r14]) (by kernel_rfl) _ _
theorem r4_eq : den prog ann 96 (.code r4 :: K) s = mreg prog ann 96 (some [0, 1, 2, 7, 8, 27, 28, 29]) [] none [] [qB 30 (binA prog .lss 3) 29 28] K s := (den_reg hf _ K s).trans (by kernel_rfl)
theorem i0_eq : den prog ann 96 (.code i0 :: K) s = ifV prog ann 96 30 i0t i0e K s (s.get 30) := den_if hf (by kernel_rfl) K s
theorem i0t_eq : den prog ann 96 (.code i0t :: K) s = den prog ann 96 (K) s := den_flat hf (l := []) (by kernel_rfl) K s
theorem i0e_eq : den prog ann 96 (.code i0e :: K) s = den prog ann 96 (.code (.exit 0) :: K) s := den_flat hf (l := [(.exit 0)]) (by kernel_rfl) K s
theorem k1_eq : den prog ann 96 (.code k1 :: K) s = den prog ann 96 (.code r5 :: .code r6 :: .code k2 :: .inBlock 1 :: K) s := den_blk hf (b := blkOf k1) (l := [r5, r6, k2]) (by kernel_rfl) (by kernel_rfl) K s
theorem r5_eq : den prog ann 96 (.code r5 :: K) s = mreg prog ann 96 none [] none [] [qC 31 29,qB 32 (idxSl 1) 27 29,qA 33 (loadF false 1) 32,qC 9 31,qC 10 33] K s := (den_reg hf _ K s).trans (by kernel_rfl)
theorem r6_eq : den prog ann 96 (.code r6 :: K) s = mreg prog ann 96 none [] none [] [qC 34 0,qA 35 nilA 34,qA 36 (fieldA 0) 35,qA 37 (fieldA 0) 36,qA 38 (loadF false 1) 37,qF 39 fun s => idxSl 1 (s.get 38) (.int .i64 0),qA 40 (loadF false 1) 39,qA 41 lenSl 40,qF 42 fun s => some (.int .i64 0)] K s := (den_reg hf _ K s).trans (by kernel_rfl)
theorem k2_eq (K : List Item) (t : List (Nat × AV)) (m : Mem) : den prog ann 96 (.code k2 :: K) ⟨t, 136, m⟩ = L2 (get t 0) (get t 1) (get t 2) (get t 7) (get t 8) (get t 9) (get t 10) (get t 27) (get t 28) (get t 29) (get t 41) (get t 42) m K := den_loop_enter hf (b := l2) (id := 7) (l := [0, 1, 2, 7, 8, 9, 10, 27, 28, 29, 41, 42]) (by kernel_rfl) (by kernel_rfl) (by kernel_rfl) K _
theorem l2_eq (K : List Item) (t : List (Nat × AV)) (m : Mem) : den prog ann 96 (.inLoop l2 :: .inBlock 2 :: K) ⟨t, 136, m⟩ = L2 (get t 0) (get t 1) (get t 2) (get t 7) (get t 8) (get t 9) (get t 10) (get t 27) (get t 28) (get t 29) (get t 41) (get t 42) m K := den_loop_again hf (id := 7) (l := [0, 1, 2, 7, 8, 9, 10, 27, 28, 29, 41, 42]) (by kernel_rfl) (by kernel_rfl) (.inBlock 2 :: K) _
theorem L2_eq (x0 x1 x2 x7 x8 x9 x10 x27 x28 x29 x41 x42 : AV) (m : Mem) (K : List Item) : L2 x0 x1 x2 x7 x8 x9 x10 x27 x28 x29 x41 x42 m K = den prog ann 96 (.code r7 :: .code i1 :: .code k3 :: .code r13 :: .inLoop l2 :: .inBlock 2 :: K) ⟨[(0, x0), (1, x1), (2, x2), (7, x7), (8, x8), (9, x9), (10, x10), (27, x27), (28, x28), (29, x29), (41, x41), (42, x42)], 136, m⟩ := den_flat hf (l := [r7, i1, k3, r13]) (by kernel_rfl) _ _
theorem r7_eq : den prog ann 96 (.code r7 :: K) s = mreg prog ann 96 (some [0, 1, 2, 7, 8, 9, 10, 27, 28, 29, 41, 42]) [] none [] [qB 43 (binA prog .lss 3) 42 41] K s := (den_reg hf _ K s).trans (by kernel_rfl)
theorem i1_eq : den prog ann 96 (.code i1 :: K) s = ifV prog ann 96 43 i1t i1e K s (s.get 43) := den_if hf (by kernel_rfl) K s
theorem i1t_eq : den prog ann 96 (.code i1t :: K) s = den prog ann 96 (K) s := den_flat hf (l := []) (by kernel_rfl) K s
theorem i1e_eq : den prog ann 96 (.code i1e :: K) s = den prog ann 96 (.code (.exit 2) :: K) s := den_flat hf (l := [(.exit 2)]) (by kernel_rfl) K s
theorem k3_eq : den prog ann 96 (.code k3 :: K) s = den prog ann 96 (.code r8 :: .code r9 :: .code i2 :: .code r11 :: .code i3 :: .inBlock 3 :: K) s := den_blk hf (b := blkOf k3) (l := [r8, r9, i2, r11, i3]) (by kernel_rfl) (by kernel_rfl) K s
theorem r8_eq : den prog ann 96 (.code r8 :: K) s = mreg prog ann 96 none [] none [] [qC 44 42,qC 11 44] K s := (den_reg hf _ K s).trans (by kernel_rfl)
theorem r9_eq : den prog ann 96 (.code r9 :: K) s = mreg prog ann 96 none [] none [] [qC 45 1] K s := (den_reg hf _ K s).trans (by kernel_rfl)
theorem i2_eq : den prog ann 96 (.code i2 :: K) s = ifV prog ann 96 45 i2t i2e K s (s.get 45) := den_if hf (by kernel_rfl) K s
theorem i2t_eq : den prog ann 96 (.code i2t :: K) s = den prog ann 96 (.code r10 :: K) s := den_flat hf (l := [r10]) (by kernel_rfl) K s
theorem r10_draw : drawOk (fun g => (ann g).pure) (modeOf (ann 96) (idOf r10)) (frzOf (ann 96) (idOf r10)) (opsOf r10) = true := drawOk_of (an := [0, 0, 0, 0, 12, 28, 0, 0, 128, 0, 896, 1984, 4032, 8188, 16383, 32767]) (by kernel_rfl) (by kernel_rfl)
theorem r10_eq : den prog ann 96 (.code r10 :: K) s = mreg prog ann 96 none [] (some 16) [] [qC 46 8,qC 47 9,qC 48 8,qC 49 9,qB 50 (idxSl 1) 48 49,qF 51 fun s => loadA false 1 s.m (s.get 50),qC 52 0,qC 53 11,⟨some 54, none, .c 0 (fun s => (.fn 59 [] [])) fun s => [(s.get 53)]⟩,qC 55 10,qB 56 (binA prog .add 9) 54 55,⟨some 57, none, .c 0 (fun s => (.fn 71 [] [])) fun s => [(s.get 52), (s.get 56)]⟩,qF 58 fun s => bslF 1 (bslA 1 1 [.int .i64 0] [(0, (s.get 57))]),⟨some 59, none, .w false (some 13) fun s => appendA 1 8 s.m (s.get 51) (s.get 58)⟩,qB 60 (idxSl 1) 46 47,⟨none, none, .w false (some 15) fun s => stA false 1 s.m (s.get 60) (s.get 59)⟩] K s := (den_regD hf r10_draw K s).trans (by kernel_rfl)
theorem i2e_eq : den prog ann 96 (.code i2e :: K) s = den prog ann 96 (K) s := den_flat hf (l := []) (by kernel_rfl) K s
theorem r11_eq : den prog ann 96 (.code r11 :: K) s = mreg prog ann 96 (some [0, 1, 2, 7, 8, 9, 10, 11, 27, 28, 29, 41, 42]) [] none [] [qC 61 2] K s := (den_reg hf _ K s).trans (by kernel_rfl)
theorem i3_eq : den prog ann 96 (.code i3 :: K) s = ifV prog ann 96 61 i3t i3e K s (s.get 61) := den_if hf (by kernel_rfl) K s
theorem i3t_eq : den prog ann 96 (.code i3t :: K) s = den prog ann 96 (.code r12 :: K) s := den_flat hf (l := [r12]) (by kernel_rfl) K s
theorem r12_draw : drawOk (fun g => (ann g).pure) (modeOf (ann 96) (idOf r12)) (frzOf (ann 96) (idOf r12)) (opsOf r12) = true := drawOk_of (an := [0, 0, 0, 0, 12, 28, 0, 0, 0, 256, 896, 1984, 4032, 8188, 16383, 32767]) (by kernel_rfl) (by kernel_rfl)
theorem r12_eq : den prog ann 96 (.code r12 :: K) s = mreg prog ann 96 none [] (some 16) [] [qC 62 8,qC 63 9,qC 64 8,qC 65 9,qB 66 (idxSl 1) 64 65,qF 67 fun s => loadA false 1 s.m (s.get 66),qC 68 0,qC 69 10,qC 70 11,⟨some 71, none, .c 0 (fun s => (.fn 59 [] [])) fun s => [(s.get 70)]⟩,qB 72 (binA prog .add 9) 69 71,⟨some 73, none, .c 0 (fun s => (.fn 71 [] [])) fun s => [(s.get 68), (s.get 72)]⟩,qF 74 fun s => bslF 1 (bslA 1 1 [.int .i64 0] [(0, (s.get 73))]),⟨some 75, none, .w false (some 13) fun s => appendA 1 8 s.m (s.get 67) (s.get 74)⟩,qB 76 (idxSl 1) 62 63,⟨none, none, .w false (some 15) fun s => stA false 1 s.m (s.get 76) (s.get 75)⟩] K s := (den_regD hf r12_draw K s).trans (by kernel_rfl)
theorem i3e_eq : den prog ann 96 (.code i3e :: K) s = den prog ann 96 (K) s := den_flat hf (l := []) (by kernel_rfl) K s
theorem r13_eq : den prog ann 96 (.code r13 :: K) s = mreg prog ann 96 (some [0, 1, 2, 7, 8, 9, 10, 27, 28, 29, 41, 42]) [] none [] [qF 77 fun s => binA prog .add 3 (s.get 42) (.int .i64 1),qC 42 77] K s := (den_reg hf _ K s).trans (by kernel_rfl)
theorem r14_eq : den prog ann 96 (.code r14 :: K) s = mreg prog ann 96 (some [0, 1, 2, 7, 8, 27, 28, 29]) [] none [] [qF 78 fun s => binA prog .add 3 (s.get 29) (.int .i64 1),qC 29 78] K s := (den_reg hf _ K s).trans (by kernel_rfl)
theorem r15_eq : den prog ann 96 (.code r15 :: K) s = mreg prog ann 96 (some [7, 8]) [] none [] [qC 79 7,⟨some 80, none, .w false none fun s => makeA 1 24 (.nils) s.m (s.get 79) (s.get 79)⟩,qC 12 80] K s := (den_reg hf _ K s).trans (by kernel_rfl)
theorem r16_eq : den prog ann 96 (.code r16 :: K) s = mreg prog ann 96 none [] none [] [qC 81 12,qA 82 lenSl 81,qF 83 fun s => some (.int .i64 0)] K s := (den_reg hf _ K s).trans (by kernel_rfl)
theorem k4_eq (K : List Item) (t : List (Nat × AV)) (m : Mem) : den prog ann 96 (.code k4 :: K) ⟨t, 136, m⟩ = L4 (get t 7) (get t 8) (get t 12) (get t 82) (get t 83) m K := den_loop_enter hf (b := l4) (id := 17) (l := [7, 8, 12, 82, 83]) (by kernel_rfl) (by kernel_rfl) (by kernel_rfl) K _
theorem l4_eq (K : List Item) (t : List (Nat × AV)) (m : Mem) : den prog ann 96 (.inLoop l4 :: .inBlock 4 :: K) ⟨t, 136, m⟩ = L4 (get t 7) (get t 8) (get t 12) (get t 82) (get t 83) m K := den_loop_again hf (id := 17) (l := [7, 8, 12, 82, 83]) (by kernel_rfl) (by kernel_rfl) (.inBlock 4 :: K) _
theorem L4_eq (x7 x8 x12 x82 x83 : AV) (m : Mem) (K : List Item) : L4 x7 x8 x12 x82 x83 m K = den prog ann 96 (.code r17 :: .code i4 :: .code k5 :: .code r31 :: .inLoop l4 :: .inBlock 4 :: K) ⟨[(7, x7), (8, x8), (12, x12), (82, x82), (83, x83)], 136, m⟩ := den_flat hf (l := [r17, i4, k5, r31]) (by kernel_rfl) _ _
theorem r17_eq : den prog ann 96 (.code r17 :: K) s = mreg prog ann 96 (some [7, 8, 12, 82, 83]) [] none [] [qB 84 (binA prog .lss 3) 83 82] K s := (den_reg hf _ K s).trans (by kernel_rfl)
theorem i4_eq : den prog ann 96 (.code i4 :: K) s = ifV prog ann 96 84 i4t i4e K s (s.get 84) := den_if hf (by kernel_rfl) K s
theorem i4t_eq : den prog ann 96 (.code i4t :: K) s = den prog ann 96 (K) s := den_flat hf (l := []) (by kernel_rfl) K s
theorem i4e_eq : den prog ann 96 (.code i4e :: K) s = den prog ann 96 (.code (.exit 4) :: K) s := den_flat hf (l := [(.exit 4)]) (by kernel_rfl) K s
theorem k5_eq : den prog ann 96 (.code k5 :: K) s = den prog ann 96 (.code r18 :: .code r19 :: .code r20 :: .code r21 :: .code k6 :: .inBlock 5 :: K) s := den_blk hf (b := blkOf k5) (l := [r18, r19, r20, r21, k6]) (by kernel_rfl) (by kernel_rfl) K s
theorem r18_eq : den prog ann 96 (.code r18 :: K) s = mreg prog ann 96 none [] none [] [qC 85 83,qC 13 85] K s := (den_reg hf _ K s).trans (by kernel_rfl)
theorem r19_eq : den prog ann 96 (.code r19 :: K) s = mreg prog ann 96 none [] none [] [qC 86 12,qC 87 13,qC 88 7,⟨some 89, none, .w false none fun s => makeA 1 1 (.bool false) s.m (s.get 88) (s.get 88)⟩,qB 90 (idxSl 1) 86 87,⟨none, none, .w false none fun s => stA false 1 s.m (s.get 90) (s.get 89)⟩] K s := (den_reg hf _ K s).trans (by kernel_rfl)
theorem r20_eq : den prog ann 96 (.code r20 :: K) s = mreg prog ann 96 none [] none [] [qC 91 12,qC 92 13,qB 93 (idxSl 1) 91 92,qF 94 fun s => loadA false 1 s.m (s.get 93),qC 95 13,qB 96 (idxSl 1) 94 95,⟨none, none, .w false none fun s => stA false 1 s.m (s.get 96) (.bool true)⟩] K s := (den_reg hf _ K s).trans (by kernel_rfl)
theorem r21_eq : den prog ann 96 (.code r21 :: K) s = mreg prog ann 96 none [] none [] [qC 97 13,⟨some 98, none, .w false none fun s => bslM s.m 1 (bslA 1 1 [.int .i64 0] [(0, (s.get 97))])⟩,qC 14 98] K s := (den_reg hf _ K s).trans (by kernel_rfl)
theorem k6_eq (K : List Item) (t : List (Nat × AV)) (m : Mem) : den prog ann 96 (.code k6 :: K) ⟨t, 136, m⟩ = L6 (get t 7) (get t 8) (get t 12) (get t 13) (get t 14) (get t 82) (get t 83) m K := den_loop_enter hf (b := l6) (id := 22) (l := [7, 8, 12, 13, 14, 82, 83]) (by kernel_rfl) (by kernel_rfl) (by kernel_rfl) K _
theorem l6_eq (K : List Item) (t : List (Nat × AV)) (m : Mem) : den prog ann 96 (.inLoop l6 :: .inBlock 6 :: K) ⟨t, 136, m⟩ = L6 (get t 7) (get t 8) (get t 12) (get t 13) (get t 14) (get t 82) (get t 83) m K := den_loop_again hf (id := 22) (l := [7, 8, 12, 13, 14, 82, 83]) (by kernel_rfl) (by kernel_rfl) (.inBlock 6 :: K) _
theorem L6_eq (x7 x8 x12 x13 x14 x82 x83 : AV) (m : Mem) (K : List Item) : L6 x7 x8 x12 x13 x14 x82 x83 m K = den prog ann 96 (.code r22 :: .code i5 :: .code k7 :: .code r23 :: .inLoop l6 :: .inBlock 6 :: K) ⟨[(7, x7), (8, x8), (12, x12), (13, x13), (14, x14), (82, x82), (83, x83)], 136, m⟩ := den_flat hf (l := [r22, i5, k7, r23]) (by kernel_rfl) _ _
theorem r22_eq : den prog ann 96 (.code r22 :: K) s = mreg prog ann 96 (some [7, 8, 12, 13, 14, 82, 83]) [] none [] [qC 99 14,qA 100 lenSl 99,qF 101 fun s => binA prog .gtr 3 (s.get 100) (.int .i64 0)] K s := (den_reg hf _ K s).trans (by kernel_rfl)
theorem i5_eq : den prog ann 96 (.code i5 :: K) s = ifV prog ann 96 101 i5t i5e K s (s.get 101) := den_if hf (by kernel_rfl) K s
theorem i5t_eq : den prog ann 96 (.code i5t :: K) s = den prog ann 96 (K) s := den_flat hf (l := []) (by kernel_rfl) K s
theorem i5e_eq : den prog ann 96 (.code i5e :: K) s = den prog ann 96 (.code (.exit 6) :: K) s := den_flat hf (l := [(.exit 6)]) (by kernel_rfl) K s
theorem k7_eq : den prog ann 96 (.code k7 :: K) s = den prog ann 96 (.code r24 :: .code k8 :: .inBlock 7 :: K) s := den_blk hf (b := blkOf k7) (l := [r24, k8]) (by kernel_rfl) (by kernel_rfl) K s
theorem r24_eq : den prog ann 96 (.code r24 :: K) s = mreg prog ann 96 none [] none [] [qC 104 8,qC 105 14,qF 106 fun s => idxSl 1 (s.get 105) (.int .i64 0),qF 107 fun s => loadA false 1 s.m (s.get 106),qB 108 (idxSl 1) 104 107,qF 109 fun s => loadA false 1 s.m (s.get 108),qA 110 lenSl 109,qF 111 fun s => some (.int .i64 0)] K s := (den_reg hf _ K s).trans (by kernel_rfl)
theorem k8_eq (K : List Item) (t : List (Nat × AV)) (m : Mem) : den prog ann 96 (.code k8 :: K) ⟨t, 136, m⟩ = L8 (get t 7) (get t 8) (get t 12) (get t 13) (get t 14) (get t 82) (get t 83) (get t 109) (get t 110) (get t 111) m K := den_loop_enter hf (b := l8) (id := 25) (l := [7, 8, 12, 13, 14, 82, 83, 109, 110, 111]) (by kernel_rfl) (by kernel_rfl) (by kernel_rfl) K _
theorem l8_eq (K : List Item) (t : List (Nat × AV)) (m : Mem) : den prog ann 96 (.inLoop l8 :: .inBlock 8 :: K) ⟨t, 136, m⟩ = L8 (get t 7) (get t 8) (get t 12) (get t 13) (get t 14) (get t 82) (get t 83) (get t 109) (get t 110) (get t 111) m K := den_loop_again hf (id := 25) (l := [7, 8, 12, 13, 14, 82, 83, 109, 110, 111]) (by kernel_rfl) (by kernel_rfl) (.inBlock 8 :: K) _
theorem L8_eq (x7 x8 x12 x13 x14 x82 x83 x109 x110 x111 : AV) (m : Mem) (K : List Item) : L8 x7 x8 x12 x13 x14 x82 x83 x109 x110 x111 m K = den prog ann 96 (.code r25 :: .code i6 :: .code k9 :: .code r30 :: .inLoop l8 :: .inBlock 8 :: K) ⟨[(7, x7), (8, x8), (12, x12), (13, x13), (14, x14), (82, x82), (83, x83), (109, x109), (110, x110), (111, x111)], 136, m⟩ := den_flat hf (l := [r25, i6, k9, r30]) (by kernel_rfl) _ _
theorem r25_eq : den prog ann 96 (.code r25 :: K) s = mreg prog ann 96 (some [7, 8, 12, 13, 14, 82, 83, 109, 110, 111]) [] none [] [qB 112 (binA prog .lss 3) 111 110] K s := (den_reg hf _ K s).trans (by kernel_rfl)
theorem i6_eq : den prog ann 96 (.code i6 :: K) s = ifV prog ann 96 112 i6t i6e K s (s.get 112) := den_if hf (by kernel_rfl) K s
theorem i6t_eq : den prog ann 96 (.code i6t :: K) s = den prog ann 96 (K) s := den_flat hf (l := []) (by kernel_rfl) K s
theorem i6e_eq : den prog ann 96 (.code i6e :: K) s = den prog ann 96 (.code (.exit 8) :: K) s := den_flat hf (l := [(.exit 8)]) (by kernel_rfl) K s
theorem k9_eq : den prog ann 96 (.code k9 :: K) s = den prog ann 96 (.code r26 :: .code r27 :: .code i7 :: .inBlock 9 :: K) s := den_blk hf (b := blkOf k9) (l := [r26, r27, i7]) (by kernel_rfl) (by kernel_rfl) K s
theorem r26_eq : den prog ann 96 (.code r26 :: K) s = mreg prog ann 96 none [] none [] [qB 113 (idxSl 1) 109 111,qF 114 fun s => loadA false 1 s.m (s.get 113),qC 16 114] K s := (den_reg hf _ K s).trans (by kernel_rfl)
theorem r27_eq : den prog ann 96 (.code r27 :: K) s = mreg prog ann 96 none [] none [] [qC 115 12,qC 116 13,qB 117 (idxSl 1) 115 116,qF 118 fun s => loadA false 1 s.m (s.get 117),qC 119 16,qB 120 (idxSl 1) 118 119,qF 121 fun s => loadA false 1 s.m (s.get 120),qA 122 (unA .not) 121] K s := (den_reg hf _ K s).trans (by kernel_rfl)
theorem i7_eq : den prog ann 96 (.code i7 :: K) s = ifV prog ann 96 122 i7t i7e K s (s.get 122) := den_if hf (by kernel_rfl) K s
theorem i7t_eq : den prog ann 96 (.code i7t :: K) s = den prog ann 96 (.code r28 :: .code r29 :: K) s := den_flat hf (l := [r28, r29]) (by kernel_rfl) K s
theorem r28_eq : den prog ann 96 (.code r28 :: K) s = mreg prog ann 96 none [] none [] [qC 123 12,qC 124 13,qB 125 (idxSl 1) 123 124,qF 126 fun s => loadA false 1 s.m (s.get 125),qC 127 16,qB 128 (idxSl 1) 126 127,⟨none, none, .w false none fun s => stA false 1 s.m (s.get 128) (.bool true)⟩] K s := (den_reg hf _ K s).trans (by kernel_rfl)
theorem r29_eq : den prog ann 96 (.code r29 :: K) s = mreg prog ann 96 none [] none [] [qC 129 14,qC 130 16,qF 131 fun s => bslF 1 (bslA 1 1 [.int .i64 0] [(0, (s.get 130))]),⟨some 132, none, .w false none fun s => appendA 1 8 s.m (s.get 129) (s.get 131)⟩,qC 14 132] K s := (den_reg hf _ K s).trans (by kernel_rfl)
theorem i7e_eq : den prog ann 96 (.code i7e :: K) s = den prog ann 96 (K) s := den_flat hf (l := []) (by kernel_rfl) K s
theorem r30_eq : den prog ann 96 (.code r30 :: K) s = mreg prog ann 96 (some [7, 8, 12, 13, 14, 82, 83, 109, 110, 111]) [] none [] [qF 133 fun s => binA prog .add 3 (s.get 111) (.int .i64 1),qC 111 133] K s := (den_reg hf _ K s).trans (by kernel_rfl)
theorem r23_eq : den prog ann 96 (.code r23 :: K) s = mreg prog ann 96 (some [7, 8, 12, 13, 14, 82, 83]) [] none [] [qC 102 14,qF 103 fun s => sliceSl 1 (s.get 102) (some (.int .i64 1)) none,qC 14 103] K s := (den_reg hf _ K s).trans (by kernel_rfl)
theorem r31_eq : den prog ann 96 (.code r31 :: K) s = mreg prog ann 96 (some [7, 8, 12, 82, 83]) [] none [] [qF 134 fun s => binA prog .add 3 (s.get 83) (.int .i64 1),qC 83 134] K s := (den_reg hf _ K s).trans (by kernel_rfl)
theorem r32_eq : den prog ann 96 (.code r32 :: K) s = mreg prog ann 96 (some [12]) [] none [] [qC 135 12,qC 6 135] K s := (den_reg hf _ K s).trans (by kernel_rfl)
theorem ret_eq : den prog ann 96 (.code .ret :: K) s = finM true [fun s => some (s.get 6)] s := (den_ret hf K s).trans (by kernel_rfl)
theorem nil_eq (s : St) : den prog ann 96 [] s = finM true [fun s => some (s.get 6)] s := (den_nil hf s).trans (by kernel_rfl)
theorem inBlock_eq (id : Nat) (K : List Item) (s : St) : den prog ann 96 (.inBlock id :: K) s = den prog ann 96 K s := den_inBlock hf id K s
theorem exit_eq (id : Nat) (K : List Item) (s : St) : den prog ann 96 (.code (.exit id) :: K) s = exitV prog ann 96 (exitTo id K) s := den_exitV hf id K s
theorem call_eq (v0 v1 v2 : AV) (m : Mem) (h : closedL [v0, v1, v2] = true) : denC prog ann 96 [v0, v1, v2] m = (den prog ann 96 [.code b] ⟨[(0, v0), (1, v1), (2, v2)], 136, Mem.empty⟩).bind fun r => some (r.1, m) := (denC_pure hf (b := b) (by kernel_rfl) (by kernel_rfl) (by kernel_rfl) h m).trans (by kernel_rfl)
theorem pure_eq : (ann 96).pure = true := by kernel_rfl
attribute [simp] b_eq r0_eq r1_eq r2_eq r3_eq k0_eq l0_eq r4_eq i0_eq i0t_eq i0e_eq k1_eq r5_eq r6_eq k2_eq l2_eq r7_eq i1_eq i1t_eq i1e_eq k3_eq r8_eq r9_eq i2_eq i2t_eq r10_eq i2e_eq r11_eq i3_eq i3t_eq r12_eq i3e_eq r13_eq r14_eq r15_eq r16_eq k4_eq l4_eq r17_eq i4_eq i4t_eq i4e_eq k5_eq r18_eq r19_eq r20_eq r21_eq k6_eq l6_eq r22_eq i5_eq i5t_eq i5e_eq k7_eq r24_eq k8_eq l8_eq r25_eq i6_eq i6t_eq i6e_eq k9_eq r26_eq r27_eq i7_eq i7t_eq r28_eq r29_eq i7e_eq r30_eq r23_eq r31_eq r32_eq ret_eq nil_eq inBlock_eq exit_eq pure_eq
end
end brand_monoid_below
namespace brand_classed
noncomputable section
variable (K : List Item) (s : St)
def b : Code := (Try.f76.body).getD .skip
theorem hf : prog.funcs[76]? = some Try.f76 := by kernel_rfl
def r0 := findReg b 0
def r1 := findReg b 1
def r2 := findReg b 2
def i0 := findCond b 0
def i0t := thenOf i0
def i0e := elseOf i0
def r3 := findReg b 3
def r4 := findReg b 4
theorem b_eq : den prog ann 76 (.code b :: K) s = den prog ann 76 (.code r0 :: .code r1 :: .code r2 :: .code i0 :: .code r4 :: .code .ret :: K) s := den_flat hf (l := [r0, r1, r2, i0, r4, .ret]) (by kernel_rfl) K s
theorem r0_eq : den prog ann 76 (.code r0 :: K) s = mreg prog ann 76 none [] none [] [qA 3 frozenPtr 0,qF 6 fun s => some (.nils),qF 7 fun s => some (.int .i64 0)] K s := (den_reg hf _ K s).trans (by kernel_rfl)
theorem r1_eq : den prog ann 76 (.code r1 :: K) s = mreg prog ann 76 none [] none [] [qA 11 (loadF true 2) 3,⟨some 12, none, .c 0 (fun s => (.fn 70 [] [])) fun s => [(s.get 11)]⟩,qC 10 12,qF 13 fun s => extA (s.get 10) 0,qF 14 fun s => extA (s.get 10) 1,qC 8 13,qC 9 14] K s := (den_reg hf _ K s).trans (by kernel_rfl)
theorem r2_eq : den prog ann 76 (.code r2 :: K) s = mreg prog ann 76 none [] none [] [qC 15 9,qF 16 fun s => binA prog .neq 27 (s.get 15) (.int .i64 0)] K s := (den_reg hf _ K s).trans (by kernel_rfl)
theorem i0_eq : den prog ann 76 (.code i0 :: K) s = ifV prog ann 76 16 i0t i0e K s (s.get 16) := den_if hf (by kernel_rfl) K s
theorem i0t_eq : den prog ann 76 (.code i0t :: K) s = den prog ann 76 (.code r3 :: .code .ret :: K) s := den_flat hf (l := [r3, .ret]) (by kernel_rfl) K s
theorem r3_eq : den prog ann 76 (.code r3 :: K) s = mreg prog ann 76 none [] none [] [qC 17 9,qF 6 fun s => some (.nils),qC 7 17] K s := (den_reg hf _ K s).trans (by kernel_rfl)
theorem i0e_eq : den prog ann 76 (.code i0e :: K) s = den prog ann 76 (K) s := den_flat hf (l := []) (by kernel_rfl) K s
theorem r4_eq : den prog ann 76 (.code r4 :: K) s = mreg prog ann 76 none [] none [] [qC 18 8,qC 19 1,qC 20 2,⟨some 21, none, .c 0 (fun s => (.fn 89 [] [])) fun s => [(s.get 18), (s.get 19), (s.get 20)]⟩,qC 6 21,qF 7 fun s => some (.int .i64 0)] K s := (den_reg hf _ K s).trans (by kernel_rfl)
theorem ret_eq : den prog ann 76 (.code .ret :: K) s = finM true [fun s => some (s.get 6), fun s => some (s.get 7)] s := (den_ret hf K s).trans (by kernel_rfl)
theorem nil_eq (s : St) : den prog ann 76 [] s = finM true [fun s => some (s.get 6), fun s => some (s.get 7)] s := (den_nil hf s).trans (by kernel_rfl)
theorem inBlock_eq (id : Nat) (K : List Item) (s : St) : den prog ann 76 (.inBlock id :: K) s = den prog ann 76 K s := den_inBlock hf id K s
theorem exit_eq (id : Nat) (K : List Item) (s : St) : den prog ann 76 (.code (.exit id) :: K) s = exitV prog ann 76 (exitTo id K) s := den_exitV hf id K s
theorem call_eq (v0 v1 v2 : AV) (m : Mem) (h : closedL [v0, v1, v2] = true) : denC prog ann 76 [v0, v1, v2] m = (den prog ann 76 [.code b] ⟨[(0, v0), (1, v1), (2, v2)], 22, Mem.empty⟩).bind fun r => some (r.1, m) := (denC_pure hf (b := b) (by kernel_rfl) (by kernel_rfl) (by kernel_rfl) h m).trans (by kernel_rfl)
theorem pure_eq : (ann 76).pure = true := by kernel_rfl
attribute [simp] b_eq r0_eq r1_eq r2_eq i0_eq i0t_eq r3_eq i0e_eq r4_eq ret_eq nil_eq inBlock_eq exit_eq pure_eq
end
end brand_classed
namespace brand_Simple
noncomputable section
variable (K : List Item) (s : St)
def b : Code := (Try.f52.body).getD .skip
theorem hf : prog.funcs[52]? = some Try.f52 := by kernel_rfl
def r0 := findReg b 0
def r1 := findReg b 1
def r2 := findReg b 2
def i0 := findCond b 0
def i0t := thenOf i0
def i0e := elseOf i0
def r3 := findReg b 3
def r4 := findReg b 4
def k0 := findBlk b 0
def l0 := loopOf k0
def L0 (x17 x18 x19 : AV) (m : Mem) (K : List Item) : Option Res := den prog ann 52 (.code l0 :: .inLoop l0 :: .inBlock 0 :: K) ⟨[(17, x17), (18, x18), (19, x19)], 33, m⟩
def r5 := findReg b 5
def i1 := findCond b 1
def i1t := thenOf i1
def i1e := elseOf i1
def k1 := findBlk b 1
def r6 := findReg b 6
def r7 := findReg b 7
def i2 := findCond b 2
def i2t := thenOf i2
def i2e := elseOf i2
def r8 := findReg b 8
def r9 := findReg b 9
def r10 := findReg b 10
theorem b_eq : den prog ann 52 (.code b :: K) s = den prog ann 52 (.code r0 :: .code r1 :: .code r2 :: .code i0 :: .code r4 :: .code k0 :: .code r10 :: .code .ret :: K) s := den_flat hf (l := [r0, r1, r2, i0, r4, k0, r10, .ret]) (by kernel_rfl) K s
theorem r0_eq : den prog ann 52 (.code r0 :: K) s = mreg prog ann 52 none [] none [] [qA 1 frozenPtr 0,qF 2 fun s => some (.str []),qF 3 fun s => some (.str []),qF 4 fun s => some (.int .i64 0)] K s := (den_reg hf _ K s).trans (by kernel_rfl)
theorem r1_eq : den prog ann 52 (.code r1 :: K) s = mreg prog ann 52 none [] none [] [qA 10 (loadF true 2) 1,⟨some 11, none, .c 0 (fun s => (.fn 76 [] [])) fun s => [(s.get 10), (.bool true), (.bool true)]⟩,qC 9 11,qF 12 fun s => extA (s.get 9) 0,qF 13 fun s => extA (s.get 9) 1,qC 5 12,qC 6 13] K s := (den_reg hf _ K s).trans (by kernel_rfl)
theorem r2_eq : den prog ann 52 (.code r2 :: K) s = mreg prog ann 52 none [] none [] [qC 14 6,qF 15 fun s => binA prog .neq 27 (s.get 14) (.int .i64 0)] K s := (den_reg hf _ K s).trans (by kernel_rfl)
theorem i0_eq : den prog ann 52 (.code i0 :: K) s = ifV prog ann 52 15 i0t i0e K s (s.get 15) := den_if hf (by kernel_rfl) K s
theorem i0t_eq : den prog ann 52 (.code i0t :: K) s = den prog ann 52 (.code r3 :: .code .ret :: K) s := den_flat hf (l := [r3, .ret]) (by kernel_rfl) K s
theorem r3_eq : den prog ann 52 (.code r3 :: K) s = mreg prog ann 52 none [] none [] [qC 16 6,qF 2 fun s => some (.str []),qF 3 fun s => some (.str []),qC 4 16] K s := (den_reg hf _ K s).trans (by kernel_rfl)
theorem i0e_eq : den prog ann 52 (.code i0e :: K) s = den prog ann 52 (K) s := den_flat hf (l := []) (by kernel_rfl) K s
theorem r4_eq : den prog ann 52 (.code r4 :: K) s = mreg prog ann 52 none [] none [] [qC 17 5,qA 18 lenSl 17,qF 19 fun s => some (.int .i64 0)] K s := (den_reg hf _ K s).trans (by kernel_rfl)
theorem k0_eq (K : List Item) (t : List (Nat × AV)) (m : Mem) : den prog ann 52 (.code k0 :: K) ⟨t, 33, m⟩ = L0 (get t 17) (get t 18) (get t 19) m K := den_loop_enter hf (b := l0) (id := 5) (l := [17, 18, 19]) (by kernel_rfl) (by kernel_rfl) (by kernel_rfl) K _
theorem l0_eq (K : List Item) (t : List (Nat × AV)) (m : Mem) : den prog ann 52 (.inLoop l0 :: .inBlock 0 :: K) ⟨t, 33, m⟩ = L0 (get t 17) (get t 18) (get t 19) m K := den_loop_again hf (id := 5) (l := [17, 18, 19]) (by kernel_rfl) (by kernel_rfl) (.inBlock 0 :: K) _
theorem L0_eq (x17 x18 x19 : AV) (m : Mem) (K : List Item) : L0 x17 x18 x19 m K = den prog ann 52 (.code r5 :: .code i1 :: .code k1 :: .code r9 :: .inLoop l0 :: .inBlock 0 :: K) ⟨[(17, x17), (18, x18), (19, x19)], 33, m⟩ := den_flat hf (l := [r5, i1, k1, r9]) (by kernel_rfl) _ _
theorem r5_eq : den prog ann 52 (.code r5 :: K) s = mreg prog ann 52 (some [17, 18, 19]) [] none [] [qB 20 (binA prog .lss 3) 19 18] K s := (den_reg hf _ K s).trans (by kernel_rfl)
theorem i1_eq : den prog ann 52 (.code i1 :: K) s = ifV prog ann 52 20 i1t i1e K s (s.get 20) := den_if hf (by kernel_rfl) K s
theorem i1t_eq : den prog ann 52 (.code i1t :: K) s = den prog ann 52 (K) s := den_flat hf (l := []) (by kernel_rfl) K s
theorem i1e_eq : den prog ann 52 (.code i1e :: K) s = den prog ann 52 (.code (.exit 0) :: K) s := den_flat hf (l := [(.exit 0)]) (by kernel_rfl) K s
theorem k1_eq : den prog ann 52 (.code k1 :: K) s = den prog ann 52 (.code r6 :: .code r7 :: .code i2 :: .inBlock 1 :: K) s := den_blk hf (b := blkOf k1) (l := [r6, r7, i2]) (by kernel_rfl) (by kernel_rfl) K s
theorem r6_eq : den prog ann 52 (.code r6 :: K) s = mreg prog ann 52 none [] none [] [qB 21 (idxSl 1) 17 19,qA 22 (loadF false 1) 21,qC 8 22] K s := (den_reg hf _ K s).trans (by kernel_rfl)
theorem r7_eq : den prog ann 52 (.code r7 :: K) s = mreg prog ann 52 none [] none [] [qC 23 8,qA 24 lenSl 23,qF 25 fun s => binA prog .gtr 3 (s.get 24) (.int .i64 1)] K s := (den_reg hf _ K s).trans (by kernel_rfl)
theorem i2_eq : den prog ann 52 (.code i2 :: K) s = ifV prog ann 52 25 i2t i2e K s (s.get 25) := den_if hf (by kernel_rfl) K s
theorem i2t_eq : den prog ann 52 (.code i2t :: K) s = den prog ann 52 (.code r8 :: .code .ret :: K) s := den_flat hf (l := [r8, .ret]) (by kernel_rfl) K s
theorem r8_draw : drawOk (fun g => (ann g).pure) (modeOf (ann 52) (idOf r8)) (frzOf (ann 52) (idOf r8)) (opsOf r8) = true := drawOk_of (an := [0, 1, 3, 0, 8, 24, 7, 127, 255]) (by kernel_rfl) (by kernel_rfl)
theorem r8_eq : den prog ann 52 (.code r8 :: K) s = mreg prog ann 52 none [] (some 9) [] [qC 26 8,qF 27 fun s => idxSl 1 (s.get 26) (.int .i64 0),qA 28 (loadF false 1) 27,qC 29 8,qF 30 fun s => idxSl 1 (s.get 29) (.int .i64 1),qA 31 (loadF false 1) 30,qC 2 28,qC 3 31,qF 4 fun s => some (.int .i64 0)] K s := (den_regD hf r8_draw K s).trans (by kernel_rfl)
theorem i2e_eq : den prog ann 52 (.code i2e :: K) s = den prog ann 52 (K) s := den_flat hf (l := []) (by kernel_rfl) K s
theorem r9_eq : den prog ann 52 (.code r9 :: K) s = mreg prog ann 52 (some [17, 18, 19]) [] none [] [qF 32 fun s => binA prog .add 3 (s.get 19) (.int .i64 1),qC 19 32] K s := (den_reg hf _ K s).trans (by kernel_rfl)
theorem r10_eq : den prog ann 52 (.code r10 :: K) s = mreg prog ann 52 (some []) [] none [] [qF 2 fun s => some (.str []),qF 3 fun s => some (.str []),qF 4 fun s => some (.int .i64 5)] K s := (den_reg hf _ K s).trans (by kernel_rfl)
theorem ret_eq : den prog ann 52 (.code .ret :: K) s = finM true [fun s => some (s.get 2), fun s => some (s.get 3), fun s => some (s.get 4)] s := (den_ret hf K s).trans (by kernel_rfl)
theorem nil_eq (s : St) : den prog ann 52 [] s = finM true [fun s => some (s.get 2), fun s => some (s.get 3), fun s => some (s.get 4)] s := (den_nil hf s).trans (by kernel_rfl)
theorem inBlock_eq (id : Nat) (K : List Item) (s : St) : den prog ann 52 (.inBlock id :: K) s = den prog ann 52 K s := den_inBlock hf id K s
theorem exit_eq (id : Nat) (K : List Item) (s : St) : den prog ann 52 (.code (.exit id) :: K) s = exitV prog ann 52 (exitTo id K) s := den_exitV hf id K s
theorem call_eq (v0 : AV) (m : Mem) (h : closedL [v0] = true) : denC prog ann 52 [v0] m = (den prog ann 52 [.code b] ⟨[(0, v0)], 33, Mem.empty⟩).bind fun r => some (r.1, m) := (denC_pure hf (b := b) (by kernel_rfl) (by kernel_rfl) (by kernel_rfl) h m).trans (by kernel_rfl)
theorem pure_eq : (ann 52).pure = true := by kernel_rfl
attribute [simp] b_eq r0_eq r1_eq r2_eq i0_eq i0t_eq r3_eq i0e_eq r4_eq k0_eq l0_eq r5_eq i1_eq i1t_eq i1e_eq k1_eq r6_eq r7_eq i2_eq i2t_eq r8_eq i2e_eq r9_eq r10_eq ret_eq nil_eq inBlock_eq exit_eq pure_eq
end
end brand_Simple
end Go.Proofs.Ythnpflkpjimkfaa

/-
  BELOW: the program's steps, a table of lists. Conditions: none.
-/
namespace Go.Proofs.Ythnpflkpjimkfaa
open Go.AM
open Go.Proofs.Try (prog)
set_option linter.all false
set_option maxRecDepth 100000
set_option maxHeartbeats 8000000
def vat (vs : List AV) (i : Nat) : AV := vs.getD i .nils
def lat (L : List (List Nat)) (i : Nat) : List Nat := L.getD i []
theorem vat_set {vs : List AV} {i j : Nat} {x : AV} (h : i < vs.length) : vat (vs.set i x) j = if i = j then x else vat vs j := by
  simp only [vat, List.getD_eq_getElem?_getD, List.getElem?_set]
  by_cases e : i = j
  · subst e; simp [h]
  · simp [e]
theorem lat_set {vs : List (List Nat)} {i j : Nat} {x : List Nat} (h : i < vs.length) : lat (vs.set i x) j = if i = j then x else lat vs j := by
  simp only [lat, List.getD_eq_getElem?_getD, List.getElem?_set]
  by_cases e : i = j
  · subst e; simp [h]
  · simp [e]
structure Tb (h : Nat → Option AObj) (T : Nat) (vs : List AV) (L : List (List Nat)) (lo hi : Nat) : Prop where
  o : h T = some (.cells vs)
  l : vs.length = L.length
  e : ∀ i, i < L.length → Nl h (vat vs i) ((lat L i).map natV) lo hi
  dj : ∀ i j, i < L.length → j < L.length → i ≠ j → ∀ y, objId (vat vs i) = some y → objId (vat vs j) ≠ some y
  t : T < lo
section
variable {h : Nat → Option AObj} {T : Nat} {vs : List AV} {L : List (List Nat)} {lo hi : Nat}
theorem Tb.ld (B : Tb h T vs L lo hi) {i : Nat} (hi : i < L.length) (nx : Nat) : loadA false 1 ⟨h, nx⟩ (.ptr T i L.length) = some (vat vs i) := by
  have hv : i < vs.length := by rw [B.l]; exact hi
  rw [loadA_ptr]
  show loadO false 1 i L.length (h T) = _
  rw [B.o, loadO_cells]
  simp [B.l, vat, hv, hi, List.getD_eq_getElem?_getD]
theorem Tb.fr {h' : Nat → Option AObj} {hi' : Nat} (B : Tb h T vs L lo hi) (e : ∀ y, y < hi → h' y = h y) (l : hi ≤ hi') (hl : lo ≤ hi) : Tb h' T vs L lo hi' :=
  ⟨by rw [e T (by have := B.t; omega), B.o], B.l, fun i hi => (B.e i hi).fr (fun y y1 y2 _ => e y y2) l, B.dj, B.t⟩
theorem Tb.push (B : Tb h T vs L lo hi) {nx : Nat} (hh : hi ≤ nx) (hl : lo ≤ hi) {i : Nat} (hiL : i < L.length) (hr : (lat L i).length ≤ 1000) (x : Nat) :
    ∃ v' h' nx', appT 1 8 ⟨h, nx⟩ (vat vs i) (some (1, [natV x])) = some (v', ⟨h', nx'⟩) ∧ (∀ n2, stA false 1 ⟨h', n2⟩ (.ptr T i L.length) v' = some (.tup [], ⟨upd h' T (some (.cells (vs.set i v'))), n2⟩)) ∧ Tb (upd h' T (some (.cells (vs.set i v')))) T (vs.set i v') (L.set i (lat L i ++ [x])) lo (nx + 1) ∧ (∀ y, y < lo → y ≠ T → (upd h' T (some (.cells (vs.set i v')))) y = h y) := by
  have hv : i < vs.length := by rw [B.l]; exact hiL
  have hT := B.t
  obtain ⟨v', h', nx', g1, g2, g3, g4, g5, g6, g7⟩ := (B.e i hiL).app (nx := nx) (by' := 8) hh (by omega) (by simp; omega) (natV x)
  have hid : ∀ y, objId v' = some y → lo ≤ y := fun y e => by
    rcases g5 y e with q | q
    · exact ((B.e i hiL).oid q).1
    · omega
  have hT' : h' T = some (.cells vs) := by rw [g6 T (fun e => by have := hid T e; omega), B.o]
  refine ⟨v', h', nx', g1, fun n2 => ?_, ⟨by simp, by simp [B.l], fun j hj => ?_, fun j j' hj hj' hne y => ?_, hT⟩, fun y y1 y2 => by rw [updNe y2, g6 y (fun e => by have := hid y e; omega)]⟩
  · rw [stA_ptr]
    show stO false 1 ⟨h', n2⟩ T i L.length v' (h' T) = _
    rw [hT', stO_cells0]
    simp [B.l, hiL, (show v'.one = true from g2.one), Mem.set]
  · have hj : j < L.length := by simpa using hj
    rw [vat_set hv, lat_set hiL]
    by_cases q : i = j
    · rw [if_pos q, if_pos q, List.map_append]
      exact g2.fr (fun y y1 y2 _ => updNe (by omega)) g4
    · rw [if_neg q, if_neg q]
      exact (B.e j hj).fr (fun y y1 y2 ye => by
        rw [updNe (by omega), g6 y (fun e => by
          rcases g5 y e with w | w
          · exact B.dj i j hiL hj q y w ye
          · omega)]) (by omega)
  · have hj : j < L.length := by simpa using hj
    have hj' : j' < L.length := by simpa using hj'
    rw [vat_set hv, vat_set hv]
    by_cases q : i = j
    · rw [if_pos q, if_neg (by omega)]
      intro e e'
      rcases g5 y e with w | w
      · exact B.dj i j' hiL hj' (by omega) y w e'
      · have := (B.e j' hj').oid e'; omega
    · rw [if_neg q]
      by_cases q' : i = j'
      · rw [if_pos q']
        intro e e'
        rcases g5 y e' with w | w
        · exact B.dj i j hiL hj q y w e
        · have := (B.e j hj).oid e; omega
      · rw [if_neg q']; exact B.dj j j' hj hj' hne y
end
def stA1 (rows : List (List Int)) (S : SM) (lf rt : Bool) (i a : Nat) : List Nat := (if lf = true then [numM rows S (ltr a ++ wrd S i)] else []) ++ (if rt = true then [numM rows S (wrd S i ++ ltr a)] else [])
def stAc (rows : List (List Int)) (S : SM) (lf rt : Bool) (i c a : Nat) : List Nat := (List.range' a c).flatMap (stA1 rows S lf rt i)
theorem stAc_succ (rows : List (List Int)) (S : SM) (lf rt : Bool) (i c a : Nat) : stAc rows S lf rt i (c + 1) a = stA1 rows S lf rt i a ++ stAc rows S lf rt i c (a + 1) := by rw [stAc, List.range'_succ, List.flatMap_cons, stAc]
theorem stAc_all (rows : List (List Int)) (S : SM) (k : Nat) (lf rt : Bool) (i : Nat) : stAc rows S lf rt i k 0 = stpM rows S k lf rt i := by rw [stAc, stpM, List.range_eq_range']; rfl
noncomputable def KB0 : List Item := .code brand_monoid_below.r15 :: .code brand_monoid_below.r16 :: .code brand_monoid_below.k4 :: .code brand_monoid_below.r32 :: .code .ret :: []
noncomputable def KB2 : List Item := .inBlock 1 :: .code brand_monoid_below.r14 :: .inLoop brand_monoid_below.l0 :: .inBlock 0 :: KB0
theorem lset_set (L : List (List Nat)) (i : Nat) (a b : List Nat) : (L.set i a).set i b = L.set i b := by simp
theorem bl_in {nv gv : AV} {ps : List AV} {rows : List (List Int)} {good : List Bool} {k : Nat} (hn : IsRows nv ps rows) (hg : IsB gv good) (v : VB rows good k) {S : SM} (W : MW rows k S) {lf rt : Bool} {T lo i : Nat} (hi : i < S.1.length) {r : Option Res} :
    ∀ (c a : Nat) (h : Nat → Option AObj) (nx0 : Nat) (vs : List AV) (L : List (List Nat)), a + c = k → Tb h T vs L lo nx0 → lo ≤ nx0 → L.length = S.1.length → (lat L i).length ≤ 2 * a →
    (∀ h' nx' vs', Tb h' T vs' (L.set i (lat L i ++ stAc rows S lf rt i c a)) lo nx' → lo ≤ nx' →
      brand_monoid_below.L0 (monV nv gv S) (.bool lf) (.bool rt) (.int .i64 S.1.length) (.sl T 1 0 S.1.length S.1.length) (wdsV S) (.int .i64 S.2.length) (.int .i64 ((i : Int) + 1)) ⟨h', nx'⟩ KB0 = r) →
    brand_monoid_below.L2 (monV nv gv S) (.bool lf) (.bool rt) (.int .i64 S.1.length) (.sl T 1 0 S.1.length S.1.length) (.int .i64 i) (.str (wrd S i)) (wdsV S) (.int .i64 S.2.length) (.int .i64 i) (.int .i64 k) (.int .i64 a) ⟨h, nx0⟩ KB2 = r := by
  intro c
  have n6 := v.n6
  have k3 := v.k3
  have hle := W.ok.le
  obtain ⟨w1, w2, w3, w4⟩ := W.wok hi
  induction c with
  | zero =>
    intro a h nx0 vs L h1 B hlo hL hli hk
    have e : a = k := by omega
    subst e
    have hwi : IntKind.wrap .i64 ((i : Int) + 1) = (i : Int) + 1 := wrap_id (by omega) (by omega)
    have e0 : L.set i (lat L i ++ stAc rows S lf rt i 0 a) = L := by
      have : i < L.length := by omega
      simp [stAc, lat, this, List.getD_eq_getElem?_getD]
    rw [e0] at hk
    have hk := hk h nx0 vs B hlo
    rw [brand_monoid_below.L2_eq]
    simp [KB2, hwi]
    exact hk
  | succ c ih =>
    intro a h nx0 vs L h1 B hlo hL hli hk
    have ha : a < k := by omega
    have hwa : IntKind.wrap .i64 ((a : Int) + 1) = (a : Int) + 1 := wrap_id (by omega) (by omega)
    have hlt := fun m => letter_spec (a := a) (by omega) m
    have ho := okW_ltr ha k3
    have hla : (ltr a).length = 1 := rfl
    have hiL : i < L.length := by omega
    have n1 := fun m => number_spec hn hg v W (w := ltr a ++ wrd S i) (okW_app ho w2) (by simp; omega) m
    have n2 := fun m => number_spec hn hg v W (w := wrd S i ++ ltr a) (okW_app w2 ho) (by simp; omega) m
    have hmc : (monV nv gv S).closed = true := rfl
    have l1 := fun n' => B.ld hiL n'
    rw [hL] at l1
    have hl1 : (ltr a).length + (wrd S i).length ≤ 4611686018427387904 := by omega
    have hl2 : (wrd S i).length + (ltr a).length ≤ 4611686018427387904 := by omega
    rw [stAc_succ] at hk
    cases lf with
    | false =>
      cases rt with
      | false =>
        have st := ih (a + 1) h nx0 vs L (by omega) B hlo hL (by omega) hk
        simp only [Int.natCast_add, Int.cast_ofNat_Int] at st
        rw [brand_monoid_below.L2_eq]
        simp [ha, hwa]
        exact st
      | true =>
        obtain ⟨v', h', nx', g1, g2, g3, g4⟩ := B.push (nx := nx0 + 13) (by omega) hlo hiL (by omega) (numM rows S (wrd S i ++ ltr a))
        have st := ih (a + 1) _ (nx0 + 16) _ _ (by omega) (g3.fr (hi' := nx0 + 16) (fun _ _ => rfl) (by omega) (by omega)) (by omega) (by simp [hL]) (by rw [lat_set hiL]; simp; omega) (fun h2 nx2 vs2 f1 f2 => hk h2 nx2 vs2 (by
          rw [lat_set hiL, if_pos rfl, lset_set, List.append_assoc] at f1
          simpa [stA1] using f1) f2)
        simp only [Int.natCast_add, Int.cast_ofNat_Int] at st
        rw [hL] at g2
        simp only [natV] at g1
        have v1 : v'.one = true := by have := g3.e i (by simpa using hiL); rw [vat_set (by rw [B.l]; exact hiL), if_pos rfl] at this; exact this.one
        have vo := (B.e i hiL).one
        rw [brand_monoid_below.L2_eq]
        simp [ha, hi, l1, hlt, hl2, hmc, n2, vo, g1, v1, g2, hwa, -stA_ptr]
        exact st
    | true =>
      cases rt with
      | false =>
        obtain ⟨v', h', nx', g1, g2, g3, g4⟩ := B.push (nx := nx0 + 13) (by omega) hlo hiL (by omega) (numM rows S (ltr a ++ wrd S i))
        have st := ih (a + 1) _ (nx0 + 16) _ _ (by omega) (g3.fr (hi' := nx0 + 16) (fun _ _ => rfl) (by omega) (by omega)) (by omega) (by simp [hL]) (by rw [lat_set hiL]; simp; omega) (fun h2 nx2 vs2 f1 f2 => hk h2 nx2 vs2 (by
          rw [lat_set hiL, if_pos rfl, lset_set, List.append_assoc] at f1
          simpa [stA1] using f1) f2)
        simp only [Int.natCast_add, Int.cast_ofNat_Int] at st
        rw [hL] at g2
        simp only [natV] at g1
        have v1 : v'.one = true := by have := g3.e i (by simpa using hiL); rw [vat_set (by rw [B.l]; exact hiL), if_pos rfl] at this; exact this.one
        have vo := (B.e i hiL).one
        rw [brand_monoid_below.L2_eq]
        simp [ha, hi, l1, hlt, hl1, hmc, n1, vo, g1, v1, g2, hwa, -stA_ptr]
        exact st
      | true =>
        obtain ⟨v', h', nx', g1, g2, g3, g4⟩ := B.push (nx := nx0 + 13) (by omega) hlo hiL (by omega) (numM rows S (ltr a ++ wrd S i))
        have B3 := g3.fr (hi' := nx0 + 16) (fun _ _ => rfl) (by omega) (by omega)
        have hiL2 : i < (L.set i (lat L i ++ [numM rows S (ltr a ++ wrd S i)])).length := by simpa using hiL
        have l3 := fun n' => B3.ld hiL2 n'
        obtain ⟨v2, h2, nx2, u1, u2, u3, u4⟩ := B3.push (nx := nx0 + 16 + 13) (by omega) (by omega) hiL2 (by rw [lat_set hiL, if_pos rfl]; simp; omega) (numM rows S (wrd S i ++ ltr a))
        have st := ih (a + 1) _ (nx0 + 16 + 16) _ _ (by omega) (u3.fr (hi' := nx0 + 16 + 16) (fun _ _ => rfl) (by omega) (by omega)) (by omega) (by simp [hL]) (by rw [lat_set hiL2, lat_set hiL]; simp; omega) (fun h2 nx2 vs2 f1 f2 => hk h2 nx2 vs2 (by
          rw [lat_set hiL2, if_pos rfl, lat_set hiL, if_pos rfl, lset_set, lset_set, List.append_assoc, List.append_assoc] at f1
          simpa [stA1] using f1) f2)
        simp only [Int.natCast_add, Int.cast_ofNat_Int] at st
        rw [hL] at g2
        simp only [List.length_set, hL] at u2 l3
        simp only [natV] at g1 u1
        have v1 : v'.one = true := by have := g3.e i (by simpa using hiL); rw [vat_set (by rw [B.l]; exact hiL), if_pos rfl] at this; exact this.one
        have e2 : vat (vs.set i v') i = v' := by rw [vat_set (by rw [B.l]; exact hiL), if_pos rfl]
        rw [e2] at l3 u1
        have v3 : v2.one = true := by have := u3.e i (by simpa using hiL); rw [vat_set (by rw [B3.l]; exact hiL2), if_pos rfl] at this; exact this.one
        have vo := (B.e i hiL).one
        simp only [List.set_set] at u2 st
        rw [brand_monoid_below.L2_eq]
        simp [ha, hi, l1, hlt, hl1, hl2, hmc, n1, n2, vo, g1, v1, g2, l3, u1, v3, u2, hwa, -stA_ptr]
        exact st
end Go.Proofs.Ythnpflkpjimkfaa
