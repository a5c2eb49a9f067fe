/-
  THE STATES THAT WORDS REACH: the specification's list. Conditions: none.
-/
import Derived.Test.YthnpflkpjimkfaaK01
import Derived.Test.YthnpflkpjimkfaaK02
set_option linter.all false
namespace Go.Proofs.Ythnpflkpjimkfaa
open Go.AM
open Go.Proofs.Try (prog)
set_option linter.all false
set_option maxRecDepth 100000
set_option maxHeartbeats 8000000
theorem Gl.deep {m : Mem} {v : AV} {id n : Nat} {xs : List AV} (g : Gl m v id 1 n xs) (d : Nat) (hd : ∀ x ∈ xs, AM.deep m.h d x = some x) : AM.deep m.h (d + 1) v = some (.fsl false n xs) := by
  obtain ⟨⟨pre, rfl, hm⟩, hn, hl⟩ := g
  have hn : xs.length = n := by omega
  have tk : xs.take n = xs := List.take_of_length_le (by omega)
  simp [AM.deep, hm, hn, tk, mapO_same xs hd]
theorem frz_56_63 (s : St) : frz1 s 3056063 = bif apart2 s 56 63 then some s else none := rfl
theorem frz_58 (s : St) : frz1 s 2000058 = bif nsl (s.get 58) then some s else none := rfl
structure Rc (m : Mem) (x4 x5 : AV) (i4 i5 : Nat) (S : List Nat × List (List UInt8)) : Prop where
  p : Gl m x4 i4 1 S.1.length (S.1.map encS)
  w : Gl m x5 i5 1 S.2.length (S.2.map .str)
  d1 : i4 ≠ i5
theorem re_k {x1 x4 x5 x6 x7 : AV} {s i4 : Nat} {S : List Nat} {m : Mem} (g : Gl m x4 i4 1 S.length (S.map encS)) (hl : S.length ≤ 1000) {K : List Item} : ∀ (c j : Nat) (b : Bool), j + c = S.length →
    r07_reached.L4 x1 x4 x5 x6 x7 (.int .i64 (s : Int)) (.bool b) (.int .i64 j) m K = r07_reached.L4 x1 x4 x5 x6 x7 (.int .i64 (s : Int)) (.bool (b || (S.drop j).any (· == s))) (.int .i64 S.length) m K := by
  intro c
  induction c with
  | zero =>
    intro j b h1
    have e : j = S.length := by omega
    subst e
    simp
  | succ c ih =>
    intro j b h1
    have hj : j < S.length := by omega
    have hwj : IntKind.wrap .i64 ((j : Int) + 1) = (j : Int) + 1 := wrap_id (by omega) (by omega)
    have ld := g.load1 hj
    have hidx := g.idx hj .i64
    have e1 : (S.map encS)[j]? = some (.int .i64 (S[j] : Int)) := by simp [hj, encS]
    rw [e1] at ld
    have hd := List.drop_eq_getElem_cons hj
    rw [hd, List.any_cons]
    have st := ih (j + 1) (b || (S[j] == s)) (by omega)
    simp only [Int.natCast_add, Int.cast_ofNat_Int] at st
    rw [← Bool.or_assoc, ← st, r07_reached.L4_eq]
    cases b with
    | true =>
      simp [g.len, hj, hwj]
      done
    | false =>
      by_cases q : S[j] = s
      · have q1 : ((S[j] : Int) == (s : Int)) = true := by simp [q]
        have q2 : (S[j] == s) = true := by simp [q]
        simp only [q2]
        simp [g.len, hj, hidx, ld, q, hwj]
        done
      · have q2 : (S[j] == s) = false := by simp [q]
        have q3 : ¬ (S[j] : Int) = (s : Int) := by omega
        simp only [q2]
        simp [g.len, hj, hidx, ld, q3, hwj]
        done
noncomputable def KR0 : List Item := [.code r07_reached.r15, .code .ret]
noncomputable def KR2 : List Item := .inBlock 1 :: .code r07_reached.r4 :: .inLoop r07_reached.l0 :: .inBlock 0 :: KR0
theorem re_in {nv gv : AV} {ps : List AV} {rows : List (List Int)} {good : List Bool} {k : Nat} (hn : IsRows nv ps rows) (v : VB rows good k) {i x : Nat} {w : List UInt8} (hx : x < rows.length) {r : Res} :
    ∀ (j a i4 i5 : Nat) (m : Mem) (x4 x5 : AV) (S : List Nat × List (List UInt8)), a + j = k → Rc m x4 x5 i4 i5 S → S.1[i]? = some x → S.2[i]? = some w → BOk (· < rows.length) List.length S →
    (∀ m' x4' x5' i4' i5', Rc m' x4' x5' i4' i5' (bIn (nx rows) extL x w j a S) →
      r07_reached.L0 (.fptr [nv, gv]) x4' x5' (.int .i64 ((i : Int) + 1)) m' KR0 = some r) →
    r07_reached.L2 (.fptr [nv, gv]) x4 x5 (.int .i64 i) (.int .i64 a) m KR2 = some r := by
  intro j
  have n6 := v.n6
  have i0 := hn.idx (i := 0) v.n1 .i64
  have j0 := hn.head (i := 0) v.n1
  have iw0 := hn.row 0 v.n1
  have r0 := v.rl 0 v.n1
  simp only [Int.ofNat_zero, Int.cast_ofNat_Int, List.drop_zero] at i0 j0
  induction j with
  | zero =>
    intro a i4 i5 m x4 x5 S h1 R hS1 hS2 hS hk
    have e : a = k := by omega
    subst e
    have hi := (List.getElem?_eq_some_iff.1 hS1).1
    have few := few6 n6 hS.nd hS.all
    have hwi : IntKind.wrap .i64 ((i : Int) + 1) = (i : Int) + 1 := wrap_id (by omega) (by omega)
    have hk := hk m x4 x5 i4 i5 R
    rw [r07_reached.L2_eq]
    simp [KR2, i0, j0, iw0.len, r0, hwi, hk]
    done
  | succ j ih =>
    intro a i4 i5 m x4 x5 S h1 R hS1 hS2 hS hk
    have ha : a < k := by omega
    have hi := (List.getElem?_eq_some_iff.1 hS1).1
    have hi2 := (List.getElem?_eq_some_iff.1 hS2).1
    have hwi : IntKind.wrap .i64 ((a : Int) + 1) = (a : Int) + 1 := wrap_id (by omega) (by have := v.k3; omega)
    have ha3 : a < 3 := by have := v.k3; omega
    have hlt := fun m => rletter_spec ha3 m
    have few := few6 n6 hS.nd hS.all
    obtain ⟨c1, c2⟩ := nx_lt v hx ha
    have b := v.rl x hx
    have iw1 := hn.row x hx
    have d1 := iw1.idx (i := a) (by omega) .i64
    have e1 := ints_head (l := cth rows x) (i := a) (by omega)
    rw [c2] at e1
    have R0 := R
    obtain ⟨R1, R2, n1⟩ := R
    have t4 := R1.lt
    have t5 := R2.lt
    have P1 : Gl ⟨m.h, m.nx + 13⟩ x4 i4 1 S.1.length (S.1.map encS) := R1.fr rfl (by show i4 < m.nx + 13; omega)
    have P2 : Gl ⟨m.h, m.nx + 13⟩ x5 i5 1 S.2.length (S.2.map .str) := R2.fr rfl (by show i5 < m.nx + 13; omega)
    have ldx := P1.load1 hi
    have hs1 : (S.1.map encS)[i]? = some (.int .i64 x) := by simp [hS1, encS]
    rw [hs1] at ldx
    have sk := fun (x1 x5 x6 x7 : AV) (K : List Item) => re_k (x1 := x1) (x5 := x5) (x6 := x6) (x7 := x7) (K := K) (s := nx rows x a) P1 (by omega) S.1.length 0 false (by omega)
    simp only [Int.ofNat_zero, Int.cast_ofNat_Int, List.drop_zero, Bool.false_or] at sk
    rw [bIn] at hk
    by_cases hc : nx rows x a ∈ S.1
    · rw [if_pos hc] at hk
      have hany : S.1.any (· == nx rows x a) = true := List.any_eq_true.2 ⟨_, hc, by simp⟩
      rw [hany] at sk
      have st := ih (a + 1) i4 i5 ⟨m.h, m.nx + 13⟩ x4 x5 S (by omega) ⟨P1, P2, n1⟩ hS1 hS2 hS hk
      simp only [Int.natCast_add, Int.cast_ofNat_Int] at st
      rw [r07_reached.L2_eq]
      simp [ha, i0, j0, iw0.len, r0, R1.idx hi, ldx, hn.idx hx, hn.head hx, d1, e1, sk]
      rw [r07_reached.L4_eq]
      simp [R1.len, hwi, st]
      done
    · rw [if_neg hc] at hk
      have hany : S.1.any (· == nx rows x a) = false := by
        rw [Bool.eq_false_iff]
        intro q
        obtain ⟨y, hy, e⟩ := List.any_eq_true.1 q
        simp at e
        exact hc (e ▸ hy)
      rw [hany] at sk
      have hq1 : Gl ⟨m.h, m.nx + 13 + 3⟩ x4 i4 1 S.1.length (S.1.map encS) := R1.fr rfl (by show i4 < m.nx + 13 + 3; omega)
      obtain ⟨y6, m3, j6, g1, g2, g3, g4, g5⟩ := hq1.app (by' := 8) (ys := [encS (nx rows x a)]) rfl (by simp; omega)
      simp only at g3 g4 g5
      have f7 : m3.h i5 = m.h i5 := g5 i5 (by omega) (fun e => n1 e.symm)
      have hw1 : Gl ⟨m3.h, m.nx + 13 + 16⟩ x5 i5 1 S.2.length (S.2.map .str) := R2.fr f7 (by show i5 < m.nx + 13 + 16; omega)
      have hw2 : Gl ⟨m3.h, m.nx + 13 + 13⟩ x5 i5 1 S.2.length (S.2.map .str) := R2.fr f7 (by show i5 < m.nx + 13 + 13; omega)
      obtain ⟨y7, m4, j7, u1, u2, u3, u4, u5⟩ := hw2.app (by' := 16) (ys := [.str (extL w a)]) rfl (by have := hS.len; simp; omega)
      simp only at u3 u4 u5
      have hj6 : j6 < m.nx + 13 + 13 := by rcases g4 with e | e <;> omega
      have hj67 : j6 ≠ i5 := by rcases g4 with e | e <;> omega
      have hwl : w.length ≤ 6 := by
        have h1 := hS.wl w (List.mem_of_getElem? hS2)
        have h2 := hS.len
        omega
      have hll : w.length + (ltr a).length ≤ 4611686018427387904 := by simp [ltr]; omega
      have R' : Rc ⟨m4.h, m.nx + 13 + 16⟩ y6 y7 j6 j7 (S.1 ++ [nx rows x a], S.2 ++ [extL w a]) := by
        refine ⟨?_, ?_, ?_⟩
        · show Gl _ _ _ _ ((S.1 ++ [nx rows x a]).length) ((S.1 ++ [nx rows x a]).map encS)
          rw [List.map_append, List.length_append]
          exact g2.fr (u5 j6 hj6 hj67) (by show j6 < m.nx + 13 + 16; omega)
        · show Gl _ _ _ _ ((S.2 ++ [extL w a]).length) ((S.2 ++ [extL w a]).map .str)
          rw [List.map_append, List.length_append]
          exact u2.fr rfl (by show j7 < m.nx + 13 + 16; rcases u4 with e | e <;> omega)
        · rcases u4 with e | e <;> omega
      have st := ih (a + 1) j6 j7 ⟨m4.h, m.nx + 13 + 16⟩ y6 y7 _ (by omega) R' (by rw [List.getElem?_append_left (by omega)]; exact hS1) (by rw [List.getElem?_append_left (by omega)]; exact hS2) (bok_add hS c1 hc (by
        have := hS.wl w (List.mem_of_getElem? hS2)
        simp [extL, ltr]; omega)) hk
      simp only [Int.natCast_add, Int.cast_ofNat_Int] at st
      simp only [encS] at g1
      simp only [extL] at u1
      have ld := hw1.load1 hi2
      have hs2 : (S.2.map AV.str)[i]? = some (.str w) := by simp [hS2]
      rw [hs2] at ld
      have o6 := R1.oid
      have o7 := R2.oidE 1 i
      have n1' : (i4 == i5) = false := beq_eq_false_iff_ne.2 n1
      rw [r07_reached.L2_eq]
      simp [ha, i0, j0, iw0.len, r0, R1.idx hi, ldx, hn.idx hx, hn.head hx, d1, e1, sk]
      rw [r07_reached.L4_eq]
      simp [R1.len, frz_56_63, frz_58, apart2, nsl, o6, o7, n1', frzL, hwi, hlt, hll, R1.one, g1, g2.one, R2.one, hw1.idx hi2, ld, u1, u2.one, st]
      done
def rchV (S : List Nat × List (List UInt8)) : AV := .tup [.fsl false S.1.length (S.1.map encS), .fsl false S.2.length (S.2.map .str)]
theorem re_out {nv gv : AV} {ps : List AV} {rows : List (List Int)} {good : List Bool} {k : Nat} (hn : IsRows nv ps rows) (v : VB rows good k) :
    ∀ (f i i4 i5 : Nat) (m : Mem) (x4 x5 : AV) (S : List Nat × List (List UInt8)), Rc m x4 x5 i4 i5 S → BOk (· < rows.length) List.length S → i ≤ S.1.length → rows.length < f + i →
    r07_reached.L0 (.fptr [nv, gv]) x4 x5 (.int .i64 i) m KR0 = some (rchV (bfsA (nx rows) extL k f i S), Mem.empty) := by
  intro f
  have n6 := v.n6
  induction f with
  | zero =>
    intro i i4 i5 m x4 x5 S R hS hi hf
    have := nodup_sub hS.nd (L := List.range rows.length) fun x hx => List.mem_range.2 (hS.all x hx)
    simp at this
    omega
  | succ f ih =>
    intro i i4 i5 m x4 x5 S R hS hi hf
    by_cases c : i < S.1.length
    · have hx := List.getElem?_eq_getElem c
      have c2 : i < S.2.length := by rw [← hS.len]; exact c
      have hw := List.getElem?_eq_getElem c2
      generalize S.1[i] = x at hx
      generalize S.2[i] = w at hw
      have hxn : x < rows.length := hS.all x (List.mem_of_getElem? hx)
      rw [bfsA, hx, hw]
      simp only []
      have st := re_in (gv := gv) hn v (i := i) (x := x) (w := w) hxn k 0 i4 i5 m x4 x5 S (by omega) R hx hw hS (fun m' x4' x5' i4' i5' R' => by
        obtain ⟨p', q'', e1, e2⟩ := bIn_pre (nx rows) extL x w k 0 S
        have hS' := bIn_ok (nx rows) extL (ok := (· < rows.length)) (ln := List.length) (k := k) (fun y a hy ha => (nx_lt v hy ha).1) (fun w a => by simp [extL, ltr]) x w hxn k 0 S (by omega) hS (hS.wl w (List.mem_of_getElem? hw))
        have hlen : i < (bIn (nx rows) extL x w k 0 S).1.length := by rw [e1]; simp; omega
        exact ih (i + 1) i4' i5' m' x4' x5' _ R' hS' (by omega) (by omega))
      simp only [Int.ofNat_zero, Int.cast_ofNat_Int] at st
      rw [r07_reached.L0_eq]
      simp [R.p.len, c]
      exact st
    · have hx : S.1[i]? = none := List.getElem?_eq_none (by omega)
      have d1 := R.p.deep 4 (fun x hx => by
        simp only [List.mem_map] at hx
        obtain ⟨q, _, rfl⟩ := hx
        rfl)
      have d2 := R.w.deep 4 (fun x hx => by
        simp only [List.mem_map] at hx
        obtain ⟨q, _, rfl⟩ := hx
        rfl)
      rw [bfsA, hx, r07_reached.L0_eq]
      simp [R.p.len, c, KR0, d1, d2, rchV]
      done
def rchS (rows : List (List Int)) (k : Nat) : List Nat × List (List UInt8) := bfsA (nx rows) extL k (rows.length + 1) 0 ([0], [[]])
theorem reached_spec {nv gv : AV} {ps : List AV} {rows : List (List Int)} {good : List Bool} {k : Nat} (hn : IsRows nv ps rows) (hg : IsB gv good) (v : VB rows good k) (m : Mem) :
    denC prog ann 66 [.agg [nv, gv]] m = some (rchV (rchS rows k), m) := by
  have n1 := v.n1
  rw [r07_reached.call_eq _ _ (by simp [hn.closed, hg.closed])]
  have st := re_out (gv := gv) hn v (rows.length + 1) 0 0 1 ⟨upd (upd Mem.empty.h 0 (some (.cells [.int .i64 0]))) 1 (some (.cells [.str []])), 2⟩ (.sl 0 1 0 1 1) (.sl 1 1 0 1 1) ([0], [[]]) ⟨⟨⟨[], rfl, by simp [encS]⟩, rfl, by show 0 < 2; omega⟩, ⟨⟨[], rfl, by simp⟩, rfl, by show 1 < 2; omega⟩, by omega⟩ ⟨by simp, by intro x hx; simp at hx; omega, rfl, by simp⟩ (by simp) (by omega)
  simp only [Int.ofNat_zero, Int.cast_ofNat_Int, KR0] at st
  simp [hn.one, hg.one, hn.closed, hg.closed]
  rw [st]
  rfl
end Go.Proofs.Ythnpflkpjimkfaa

/-
  MATRICES IN MEMORY: a list of rows, each one an object. Conditions: none.
-/
namespace Go.Proofs.Ythnpflkpjimkfaa
open Go.AM
open Go.Proofs.Try (prog)
set_option linter.all false
set_option maxRecDepth 100000
set_option maxHeartbeats 4000000
def rid (ids : List Nat) (i : Nat) : Nat := ids.getD i 0
structure Bt (h : Nat → Option AObj) (d : Nat) (ids : List Nat) (D : MB) (n e : Nat) : Prop where
  o : h d = some (.cells (ids.map (fun r => AV.sl r 1 0 n n) ++ List.replicate e .nils))
  l : ids.length = D.length
  nd : ids.Nodup
  nd' : d ∉ ids
  r : ∀ i, i < D.length → h (rid ids i) = some (.cells (bls (brw D i)))
  rl : ∀ i, i < D.length → (brw D i).length = n
section
variable {h h' : Nat → Option AObj} {d : Nat} {ids : List Nat} {D : MB} {n e : Nat}
theorem rid_mem {i : Nat} (hi : i < ids.length) : rid ids i ∈ ids := by
  simp [rid, List.getD_eq_getElem?_getD, hi]
theorem Bt.rm (b : Bt h d ids D n e) {i : Nat} (hi : i < D.length) : rid ids i ∈ ids := rid_mem (by rw [b.l]; exact hi)
theorem Bt.fr (b : Bt h d ids D n e) (e1 : h' d = h d) (e2 : ∀ x ∈ ids, h' x = h x) : Bt h' d ids D n e :=
  ⟨by rw [e1, b.o], b.l, b.nd, b.nd', fun i hi => by rw [e2 _ (b.rm hi), b.r i hi], b.rl⟩
theorem Bt.ld (b : Bt h d ids D n e) {i : Nat} (hi : i < D.length) (nx : Nat) : loadA false 1 ⟨h, nx⟩ (.ptr d i (D.length + e)) = some (.sl (rid ids i) 1 0 n n) := by
  have hi' : i < ids.length := by rw [b.l]; exact hi
  rw [loadA_ptr]
  show loadO false 1 i (D.length + e) (h d) = _
  rw [b.o, loadO_cells]
  have e1 : (ids.map (fun r => AV.sl r 1 0 n n) ++ List.replicate e AV.nils).length == D.length + e := by simp [b.l]
  rw [e1]
  simp [rid, hi', List.getElem?_append_left]
theorem Bt.ld0 (b : Bt h d ids D n 0) {i : Nat} (hi : i < D.length) (nx : Nat) : loadA false 1 ⟨h, nx⟩ (.ptr d i D.length) = some (.sl (rid ids i) 1 0 n n) := b.ld hi nx
theorem Bt.get (b : Bt h d ids D n e) {i j : Nat} (hi : i < D.length) (hj : j < n) (nx : Nat) : loadA false 1 ⟨h, nx⟩ (.ptr (rid ids i) j n) = some (.bool (mth D i j)) := by
  have hl := b.rl i hi
  rw [loadA_ptr]
  show loadO false 1 j n (h (rid ids i)) = _
  rw [b.r i hi, loadO_cells]
  have e1 : (bls (brw D i)).length == n := by simp [hl]
  rw [e1]
  have hj' : j < (brw D i).length := by omega
  simp [bls, mth, bnth, List.getD_eq_getElem?_getD, hj']
theorem rid_inj (b : Bt h d ids D n e) {i i' : Nat} (hi : i < D.length) (hi' : i' < D.length) (q : rid ids i = rid ids i') : i = i' := by
  have h1 : i < ids.length := by rw [b.l]; exact hi
  have h2 : i' < ids.length := by rw [b.l]; exact hi'
  simp only [rid, List.getD_eq_getElem?_getD, List.getElem?_eq_getElem h1, List.getElem?_eq_getElem h2, Option.getD_some] at q
  have pw := List.pairwise_iff_getElem.1 b.nd
  rcases Nat.lt_trichotomy i i' with c | c | c
  · exact absurd q (pw i i' h1 h2 c)
  · exact c
  · exact absurd q.symm (pw i' i h2 h1 c)
theorem bls_set (l : List Bool) (j : Nat) (x : Bool) : (bls l).set j (.bool x) = bls (l.set j x) := by simp [bls, List.map_set]
theorem Bt.put (b : Bt h d ids D n e) {i j : Nat} (hi : i < D.length) (hj : j < n) (x : Bool) (nx : Nat) :
    stA false 1 ⟨h, nx⟩ (.ptr (rid ids i) j n) (.bool x) = some (.tup [], ⟨upd h (rid ids i) (some (.cells (bls ((brw D i).set j x)))), nx⟩) ∧ Bt (upd h (rid ids i) (some (.cells (bls ((brw D i).set j x))))) d ids (setM D i j x) n e := by
  have hl := b.rl i hi
  have hm := b.rm hi
  refine ⟨?_, ?_, ?_, b.nd, b.nd', ?_, ?_⟩
  · rw [stA_ptr]
    show stO false 1 ⟨h, nx⟩ (rid ids i) j n (.bool x) (h (rid ids i)) = _
    rw [b.r i hi, stO_cells0]
    have e1 : (bls (brw D i)).length == n := by simp [hl]
    rw [e1, bls_set]
    have : Nat.blt j n = true := by simpa [Nat.blt_eq] using hj
    simp [hj, AV.one, Mem.set]
  · rw [updNe (fun q => b.nd' (by rw [q]; exact hm)), b.o]
  · simp [setM, b.l]
  · intro i' hi'
    have hi' : i' < D.length := by simpa [setM] using hi'
    rw [setM, brw_set hi]
    by_cases q : i = i'
    · subst q; simp
    · rw [if_neg q, updNe (fun q' => q (rid_inj b hi hi' q'.symm)), b.r i' hi']
  · intro i' hi'
    have hi' : i' < D.length := by simpa [setM] using hi'
    rw [setM, brw_set hi]
    split
    · rw [List.length_set]; exact hl
    · exact b.rl i' hi'
theorem Bt.add (b : Bt h d ids D n (e + 1)) {x : Nat} {row : List Bool} (hx : x ≠ d) (hx' : x ∉ ids) (hr : row.length = n) (e1 : h' d = some (.cells ((ids.map (fun r => AV.sl r 1 0 n n) ++ List.replicate (e + 1) AV.nils).set D.length (.sl x 1 0 n n)))) (e2 : h' x = some (.cells (bls row))) (e3 : ∀ y ∈ ids, h' y = h y) : Bt h' d (ids ++ [x]) (D ++ [row]) n e := by
  have hl := b.l
  refine ⟨?_, by simp [hl], ?_, ?_, ?_, ?_⟩
  · rw [e1]
    have : (ids.map (fun r => AV.sl r 1 0 n n)).length = D.length := by simp [hl]
    rw [List.set_append_right _ _ (by omega), this, Nat.sub_self, List.replicate_succ]
    simp
  · rw [List.nodup_append]
    refine ⟨b.nd, by simp, ?_⟩
    intro a ha c hc
    simp at hc
    subst hc
    exact fun q => hx' (q ▸ ha)
  · intro q
    rcases List.mem_append.1 q with q | q
    · exact b.nd' q
    · simp at q; exact hx q.symm
  · intro i hi
    simp at hi
    by_cases q : i < D.length
    · have q1 : rid (ids ++ [x]) i = rid ids i := by simp [rid, List.getD_eq_getElem?_getD, List.getElem?_append_left (show i < ids.length by omega)]
      have q2 : brw (D ++ [row]) i = brw D i := by simp [brw, List.getD_eq_getElem?_getD, List.getElem?_append_left q]
      rw [q1, q2, e3 _ (b.rm q), b.r i q]
    · have : i = D.length := by omega
      subst this
      have q1 : rid (ids ++ [x]) D.length = x := by simp [rid, List.getD_eq_getElem?_getD, ← hl]
      have q2 : brw (D ++ [row]) D.length = row := by simp [brw, List.getD_eq_getElem?_getD]
      rw [q1, q2, e2]
  · intro i hi
    simp at hi
    by_cases q : i < D.length
    · have q2 : brw (D ++ [row]) i = brw D i := by simp [brw, List.getD_eq_getElem?_getD, List.getElem?_append_left q]
      rw [q2]; exact b.rl i q
    · have : i = D.length := by omega
      subst this
      have q2 : brw (D ++ [row]) D.length = row := by simp [brw, List.getD_eq_getElem?_getD]
      rw [q2]; exact hr
end
end Go.Proofs.Ythnpflkpjimkfaa

/-
  ALIKE STATES: the specification's rounds. Conditions: none.
-/
namespace Go.Proofs.Ythnpflkpjimkfaa
open Go.AM
open Go.Proofs.Try (prog)
set_option linter.all false
set_option maxRecDepth 100000
set_option maxHeartbeats 8000000
theorem Bt.addb {h h' : Nat → Option AObj} {d : Nat} {ids : List Nat} {D : MB} {n : Nat} (b : Bt h d ids D n 0) {x : Nat} {row : List Bool} (hx : x ≠ d) (hx' : x ∉ ids) (hr : row.length = n) (e1 : h' d = some (.cells (ids.map (fun r => AV.sl r 1 0 n n) ++ [.sl x 1 0 n n]))) (e2 : h' x = some (.cells (bls row))) (e3 : ∀ y ∈ ids, h' y = h y) : Bt h' d (ids ++ [x]) (D ++ [row]) n 0 := by
  have b1 : Bt (upd h d (some (.cells (ids.map (fun r => AV.sl r 1 0 n n) ++ List.replicate 1 .nils)))) d ids D n 1 := ⟨by simp, b.l, b.nd, b.nd', fun i hi => by rw [updNe (fun e => b.nd' (by rw [← e]; exact b.rm hi)), b.r i hi], b.rl⟩
  refine b1.add hx hx' hr ?_ e2 (fun y hy => by rw [e3 y hy, updNe (fun e => b.nd' (by rw [← e]; exact hy))])
  have hl := b.l
  rw [e1, List.set_append_right _ _ (by simp [hl])]
  simp [hl]
noncomputable def KL4 : List Item := [.code r07_alike.r25, .code .ret]
noncomputable def KL6 : List Item := .inBlock 5 :: .code r07_alike.r14 :: .inLoop r07_alike.l4 :: .inBlock 4 :: KL4
noncomputable def KL8 : List Item := .inBlock 7 :: .code r07_alike.r17 :: .inLoop r07_alike.l6 :: .inBlock 6 :: KL6
noncomputable def KL10 : List Item := .inBlock 9 :: .code r07_alike.r20 :: .inLoop r07_alike.l8 :: .inBlock 8 :: KL8
theorem lkA_succ (rows : List (List Int)) (i j c a : Nat) (P : MB) : lkA rows i j (c + 1) a P = lkA rows i j c (a + 1) (mkL rows i j P a) := by rw [lkA, List.range'_succ, List.foldl_cons, lkA]
theorem lkJ_succ (rows : List (List Int)) (k i c j : Nat) (P : MB) : lkJ rows k i (c + 1) j P = lkJ rows k i c (j + 1) (lkA rows i j k 0 P) := by rw [lkJ, List.range'_succ, List.foldl_cons, lkJ]
theorem lkI_succ (rows : List (List Int)) (k n c i : Nat) (P : MB) : lkI rows k n (c + 1) i P = lkI rows k n c (i + 1) (lkJ rows k i n 0 P) := by rw [lkI, List.range'_succ, List.foldl_cons, lkI]
theorem lkR_succ (rows : List (List Int)) (k n c i : Nat) (P : MB) : lkR rows k n (c + 1) i P = lkR rows k n c (i + 1) (lkI rows k n n 0 P) := by rw [lkR, List.range'_succ, List.foldl_cons, lkR]
theorem lk_a {nv gv : AV} {ps : List AV} {rows : List (List Int)} {good : List Bool} {k : Nat} (hn : IsRows nv ps rows) (v : VB rows good k) {d r0 : Nat} {ids : List Nat} {i j : Nat} (hi : i < rows.length) (hj : j < rows.length) {r : Res} :
    ∀ (c a : Nat) (h : Nat → Option AObj) (nx0 : Nat) (P : MB), a + c = k → Bt h d ids P rows.length 0 → P.length = rows.length →
    (∀ h' nx', Bt h' d ids (lkA rows i j c a P) rows.length 0 → (lkA rows i j c a P).length = rows.length →
      r07_alike.L8 (.fptr [nv, gv]) (.int .i64 rows.length) (.sl d 1 0 rows.length rows.length) (.int .i64 r0) (.int .i64 i) (.int .i64 ((j : Int) + 1)) ⟨h', nx'⟩ KL8 = some r) →
    r07_alike.L10 (.fptr [nv, gv]) (.int .i64 rows.length) (.sl d 1 0 rows.length rows.length) (.int .i64 r0) (.int .i64 i) (.int .i64 j) (.int .i64 a) ⟨h, nx0⟩ KL10 = some r := by
  intro c
  have n6 := v.n6
  have k3 := v.k3
  have iw1 := hn.row i hi
  have b := v.rl i hi
  induction c with
  | zero =>
    intro a h nx0 P h1 B hl hk
    have e : a = k := by omega
    subst e
    have hwj : IntKind.wrap .i64 ((j : Int) + 1) = (j : Int) + 1 := wrap_id (by omega) (by omega)
    have hk := hk h nx0 B hl
    rw [r07_alike.L10_eq]
    simp [KL10, hwj, hn.idx hi, hn.head hi, iw1.len, b]
    exact hk
  | succ c ih =>
    intro a h nx0 P h1 B hl hk
    have ha : a < k := by omega
    have hwa : IntKind.wrap .i64 ((a : Int) + 1) = (a : Int) + 1 := wrap_id (by omega) (by omega)
    obtain ⟨c1, c2⟩ := nx_lt v hi ha
    obtain ⟨c1', c2'⟩ := nx_lt v hj ha
    have b' := v.rl j hj
    have iw2 := hn.row j hj
    have d1 := iw1.idx (i := a) (by omega) .i64
    have d2 := iw2.idx (i := a) (by omega) .i64
    have e1 := ints_head (l := cth rows i) (i := a) (by omega)
    have e2 := ints_head (l := cth rows j) (i := a) (by omega)
    rw [c2] at e1
    rw [c2'] at e2
    have l1 := fun n' => B.ld0 (i := i) (by omega) n'
    have l2 := fun n' => B.get (i := i) (j := j) (by omega) hj n'
    have l3 := fun n' => B.ld0 (i := nx rows i a) (by omega) n'
    have l4 := fun n' => B.get (i := nx rows i a) (j := nx rows j a) (by omega) c1' n'
    rw [hl] at l1 l3
    rw [lkA_succ] at hk
    obtain ⟨p1, p2⟩ := B.put (i := i) (j := j) (by omega) hj (mth P i j && mth P (nx rows i a) (nx rows j a)) (nx0 + 36)
    have st := ih (a + 1) _ (nx0 + 37) (setM P i j (mth P i j && mth P (nx rows i a) (nx rows j a))) (by omega) p2 (by simpa [setM] using hl) (fun h' nx' g1 g2 => hk h' nx' g1 g2)
    simp only [Int.natCast_add, Int.cast_ofNat_Int] at st
    rcases q : mth P i j with _ | _
    · rw [q] at l2 p1 st
      simp only [Bool.false_and] at p1 st
      rw [r07_alike.L10_eq]
      simp [ha, hi, hj, l1, l2, hn.idx hi, hn.head hi, iw1.len, b, hwa, p1, -stA_ptr, st]
      done
    · rw [q] at l2 p1 st
      simp only [Bool.true_and] at p1 st
      rw [r07_alike.L10_eq]
      simp [ha, hi, hj, l1, l2, l3, l4, hn.idx hi, hn.head hi, iw1.len, b, hn.idx hj, hn.head hj, d1, d2, e1, e2, c1, c1', hwa, p1, -stA_ptr, st]
      done
theorem lk_j {nv gv : AV} {ps : List AV} {rows : List (List Int)} {good : List Bool} {k : Nat} (hn : IsRows nv ps rows) (v : VB rows good k) {d r0 : Nat} {ids : List Nat} {i : Nat} (hi : i < rows.length) {r : Res} :
    ∀ (c j : Nat) (h : Nat → Option AObj) (nx0 : Nat) (P : MB), j + c = rows.length → Bt h d ids P rows.length 0 → P.length = rows.length →
    (∀ h' nx', Bt h' d ids (lkJ rows k i c j P) rows.length 0 → (lkJ rows k i c j P).length = rows.length →
      r07_alike.L6 (.fptr [nv, gv]) (.int .i64 rows.length) (.sl d 1 0 rows.length rows.length) (.int .i64 r0) (.int .i64 ((i : Int) + 1)) ⟨h', nx'⟩ KL6 = some r) →
    r07_alike.L8 (.fptr [nv, gv]) (.int .i64 rows.length) (.sl d 1 0 rows.length rows.length) (.int .i64 r0) (.int .i64 i) (.int .i64 j) ⟨h, nx0⟩ KL8 = some r := by
  intro c
  have n6 := v.n6
  induction c with
  | zero =>
    intro j h nx0 P h1 B hl hk
    have e : j = rows.length := by omega
    subst e
    have hwi : IntKind.wrap .i64 ((i : Int) + 1) = (i : Int) + 1 := wrap_id (by omega) (by omega)
    have hk := hk h nx0 B hl
    rw [r07_alike.L8_eq]
    simp [KL8, hwi]
    exact hk
  | succ c ih =>
    intro j h nx0 P h1 B hl hk
    have hj : j < rows.length := by omega
    rw [lkJ_succ] at hk
    have st := lk_a (gv := gv) (r0 := r0) hn v hi hj (r := r) k 0 h nx0 P (by omega) B hl (fun h' nx' g1 g2 => by
      have := ih (j + 1) h' nx' _ (by omega) g1 g2 (fun h'' nx'' f1 f2 => hk h'' nx'' f1 f2)
      simp only [Int.natCast_add, Int.cast_ofNat_Int] at this
      exact this)
    simp only [Int.ofNat_zero, Int.cast_ofNat_Int] at st
    rw [r07_alike.L8_eq]
    simp [hj]
    exact st
theorem lk_i {nv gv : AV} {ps : List AV} {rows : List (List Int)} {good : List Bool} {k : Nat} (hn : IsRows nv ps rows) (v : VB rows good k) {d r0 : Nat} {ids : List Nat} (hr0 : r0 < 100) {r : Res} :
    ∀ (c i : Nat) (h : Nat → Option AObj) (nx0 : Nat) (P : MB), i + c = rows.length → Bt h d ids P rows.length 0 → P.length = rows.length →
    (∀ h' nx', Bt h' d ids (lkI rows k rows.length c i P) rows.length 0 → (lkI rows k rows.length c i P).length = rows.length →
      r07_alike.L4 (.fptr [nv, gv]) (.int .i64 rows.length) (.sl d 1 0 rows.length rows.length) (.int .i64 ((r0 : Int) + 1)) ⟨h', nx'⟩ KL4 = some r) →
    r07_alike.L6 (.fptr [nv, gv]) (.int .i64 rows.length) (.sl d 1 0 rows.length rows.length) (.int .i64 r0) (.int .i64 i) ⟨h, nx0⟩ KL6 = some r := by
  intro c
  have n6 := v.n6
  induction c with
  | zero =>
    intro i h nx0 P h1 B hl hk
    have e : i = rows.length := by omega
    subst e
    have hwi : IntKind.wrap .i64 ((r0 : Int) + 1) = (r0 : Int) + 1 := wrap_id (by omega) (by omega)
    have hk := hk h nx0 B hl
    rw [r07_alike.L6_eq]
    simp [KL6, hwi]
    exact hk
  | succ c ih =>
    intro i h nx0 P h1 B hl hk
    have hi : i < rows.length := by omega
    rw [lkI_succ] at hk
    have st := lk_j (gv := gv) (r0 := r0) hn v hi (r := r) rows.length 0 h nx0 P (by omega) B hl (fun h' nx' g1 g2 => by
      have := ih (i + 1) h' nx' _ (by omega) g1 g2 (fun h'' nx'' f1 f2 => hk h'' nx'' f1 f2)
      simp only [Int.natCast_add, Int.cast_ofNat_Int] at this
      exact this)
    simp only [Int.ofNat_zero, Int.cast_ofNat_Int] at st
    rw [r07_alike.L6_eq]
    simp [hi]
    exact st
def mbV (n : Nat) (L : MB) : AV := .fsl false L.length (L.map fun r => .fsl false n (bls r))
theorem bls_deep (h : Nat → Option AObj) (d : Nat) (l : List Bool) : mapO (AM.deep h (d + 1)) (bls l) = some (bls l) := mapO_same _ (fun x hx => by
  simp only [bls, List.mem_map] at hx
  obtain ⟨b, _, rfl⟩ := hx
  rfl)
theorem Bt.deep {h : Nat → Option AObj} {d : Nat} {ids : List Nat} {D : MB} {n : Nat} (B : Bt h d ids D n 0) (e : Nat) : AM.deep h (e + 3) (.sl d 1 0 D.length D.length) = some (mbV n D) := by
  have h1 : mapO (AM.deep h (e + 2)) (ids.map fun r => AV.sl r 1 0 n n) = some (D.map fun r => .fsl false n (bls r)) := by
    have key : ∀ (l : List Nat) (L : MB), l.length = L.length → (∀ i, i < L.length → h (rid l i) = some (.cells (bls (brw L i)))) → (∀ i, i < L.length → (brw L i).length = n) → mapO (AM.deep h (e + 2)) (l.map fun r => AV.sl r 1 0 n n) = some (L.map fun r => .fsl false n (bls r)) := by
      intro l
      induction l with
      | nil => intro L hl _ _; cases L with
        | nil => rfl
        | cons _ _ => simp at hl
      | cons x l ih =>
        intro L hl h1 h2
        cases L with
        | nil => simp at hl
        | cons row L =>
          have a1 := h1 0 (by simp)
          have a2 := h2 0 (by simp)
          simp [rid, brw] at a1 a2
          have ih := ih L (by simpa using hl) (fun i hi => h1 (i + 1) (by simpa using hi)) (fun i hi => h2 (i + 1) (by simpa using hi))
          simp only [List.map_cons, mapO, ih]
          have tk : (bls row).take n = bls row := List.take_of_length_le (by simp [a2])
          simp [AM.deep, a1, a2, bls_deep, tk, mapO_same]
    exact key ids D B.l B.r B.rl
  have hl : (ids.map fun r => AV.sl r 1 0 n n).length = D.length := by simp [B.l]
  have ho := B.o
  simp only [List.replicate_zero, List.append_nil] at ho
  have tk : (ids.map fun r => AV.sl r 1 0 n n).take D.length = ids.map fun r => AV.sl r 1 0 n n := List.take_of_length_le (by omega)
  have hi := B.l
  simp only [AM.deep, ho]
  simp [hi, tk, h1, mbV, List.take_of_length_le]
theorem lk_w {nv gv : AV} {ps : List AV} {rows : List (List Int)} {good : List Bool} {k : Nat} (hn : IsRows nv ps rows) (v : VB rows good k) {d : Nat} {ids : List Nat} :
    ∀ (c r0 : Nat) (h : Nat → Option AObj) (nx0 : Nat) (P : MB), r0 + c = rows.length * rows.length → Bt h d ids P rows.length 0 → P.length = rows.length →
    r07_alike.L4 (.fptr [nv, gv]) (.int .i64 rows.length) (.sl d 1 0 rows.length rows.length) (.int .i64 r0) ⟨h, nx0⟩ KL4 = some (mbV rows.length (lkR rows k rows.length c r0 P), Mem.empty) := by
  intro c
  have n6 := v.n6
  have nn : rows.length * rows.length ≤ 36 := Nat.mul_le_mul n6 n6
  have hww : IntKind.wrap .i64 ((rows.length : Int) * rows.length) = ((rows.length * rows.length : Nat) : Int) := by
    rw [← Int.natCast_mul]; exact wrap_id (by omega) (by omega)
  generalize rows.length * rows.length = N at *
  induction c with
  | zero =>
    intro r0 h nx0 P h1 B hl
    have e : r0 = N := by omega
    subst e
    have hd := B.deep 3
    rw [hl] at hd
    have e0 : lkR rows k rows.length 0 r0 P = P := rfl
    rw [e0, r07_alike.L4_eq]
    simp [KL4, hww, hd]
    done
  | succ c ih =>
    intro r0 h nx0 P h1 B hl
    have hr : r0 < N := by omega
    rw [lkR_succ]
    have st := lk_i (gv := gv) (r0 := r0) hn v (by omega) (r := (mbV rows.length (lkR rows k rows.length c (r0 + 1) (lkI rows k rows.length rows.length 0 P)), Mem.empty)) rows.length 0 h nx0 P (by omega) B hl (fun h' nx' g1 g2 => by
      have := ih (r0 + 1) h' nx' _ (by omega) g1 g2
      simp only [Int.natCast_add, Int.cast_ofNat_Int] at this
      exact this)
    simp only [Int.ofNat_zero, Int.cast_ofNat_Int] at st
    rw [r07_alike.L4_eq]
    simp [hww, hr]
    exact st
end Go.Proofs.Ythnpflkpjimkfaa

/-
  ALIKE STATES: the specification's first answers, and what it returns. Conditions: none.
-/
namespace Go.Proofs.Ythnpflkpjimkfaa
open Go.AM
open Go.Proofs.Try (prog)
set_option linter.all false
set_option maxRecDepth 100000
set_option maxHeartbeats 8000000
noncomputable def KL0 : List Item := [.code r07_alike.r12, .code r07_alike.k4, .code r07_alike.r25, .code .ret]
noncomputable def KL2 : List Item := .code r07_alike.r11 :: .inBlock 1 :: .code r07_alike.r5 :: .inLoop r07_alike.l0 :: .inBlock 0 :: KL0
theorem lk_f {nv gv : AV} {good : List Bool} {n : Nat} (hg : IsB gv good) (hgn : good.length = n) (n6 : n ≤ 6) {s d : Nat} {ids : List Nat} {D : MB} (hs : s < n) (hDs : D.length = s) {r : Res} :
    ∀ (c j : Nat) (h : Nat → Option AObj) (nx0 R : Nat) (row : List Bool), j + c = n → row.length = j → Bt h d ids D n 0 → h R = some (.cells (bls row)) → R ≠ d → R ∉ ids → R < nx0 → d < nx0 → (∀ y ∈ ids, y < nx0) →
    (∀ h' nx', Bt h' d (ids ++ [R]) (D ++ [row ++ (List.range' j c).map fun j => (bnth good s == bnth good j)]) n 0 → nx0 ≤ nx' →
      r07_alike.L0 (.fptr [nv, gv]) (.int .i64 n) (.sl d 1 0 (s + 1) (s + 1)) (.int .i64 ((s : Int) + 1)) ⟨h', nx'⟩ KL0 = some r) →
    r07_alike.L2 (.fptr [nv, gv]) (.int .i64 n) (.sl d 1 0 s s) (.int .i64 s) (.sl R 1 0 j j) (.int .i64 j) ⟨h, nx0⟩ KL2 = some r := by
  intro c
  induction c with
  | zero =>
    intro j h nx0 R row h1 hrl B hR hRd hRi hRn hdn hin hk
    have ej : j = n := by omega
    subst ej
    have hws : IntKind.wrap .i64 ((s : Int) + 1) = (s : Int) + 1 := wrap_id (by omega) (by omega)
    have hil : ids.length = s := by rw [B.l, hDs]
    have ho := B.o
    simp only [List.replicate_zero, List.append_nil] at ho
    have hdne : (d == nx0) = false := beq_eq_false_iff_ne.2 (by omega)
    have B2 := B.addb (h' := upd (upd h nx0 (some (.cells [.sl R 1 0 j j]))) d (some (.cells (ids.map (fun r => AV.sl r 1 0 j j) ++ [.sl R 1 0 j j])))) (x := R) (row := row) hRd hRi hrl (by simp) (by rw [updNe hRd, updNe (by omega), hR]) (fun y hy => by
      have := hin y hy
      rw [updNe (fun e => B.nd' (by rw [← e]; exact hy)), updNe (by omega)])
    have hk := hk _ (nx0 + 1) (by simpa using B2) (by omega)
    rw [r07_alike.L2_eq]
    simp [KL2, hws, ho, hil, hdne, show s ≤ 4611686018427387903 by omega, show (s + 1) * 24 ≤ 70368744177664 by omega]
    exact hk
  | succ c ih =>
    intro j h nx0 R row h1 hrl B hR hRd hRi hRn hdn hin hk
    have hj : j < n := by omega
    have hwj : IntKind.wrap .i64 ((j : Int) + 1) = (j : Int) + 1 := wrap_id (by omega) (by omega)
    have b1 := bls_head (bs := good) (i := s) (by omega)
    have b2 := bls_head (bs := good) (i := j) (by omega)
    have erow : bls row ++ [.bool (bnth good s == bnth good j)] = bls (row ++ [bnth good s == bnth good j]) := by simp [bls]
    have B2 : Bt (upd h R (some (.cells (bls (row ++ [bnth good s == bnth good j]))))) d ids D n 0 := B.fr (updNe hRd.symm) (fun y hy => updNe (fun e => hRi (e ▸ hy)))
    rw [List.range'_succ, List.map_cons] at hk
    have st := ih (j + 1) (upd h R (some (.cells (bls (row ++ [bnth good s == bnth good j]))))) (nx0 + 15) R (row ++ [bnth good s == bnth good j]) (by omega) (by simp [hrl]) B2 (by simp) hRd hRi (by omega) (by omega) (fun y hy => by have := hin y hy; omega) (fun h' nx' g1 g2 => hk h' nx' (by rw [List.append_assoc] at g1; exact g1) (by omega))
    simp only [Int.natCast_add, Int.cast_ofNat_Int] at st
    rw [r07_alike.L2_eq]
    simp [hj, hs, hg.idx (i := s) (by omega), hg.idx (i := j) (by omega), b1, b2, hwj, hR, hrl, show j ≤ 4611686018427387903 by omega, show (j + 1) ≤ 70368744177664 by omega, erow, st]
    done
theorem lk_d {nv gv : AV} {ps : List AV} {rows : List (List Int)} {good : List Bool} {k : Nat} (hn : IsRows nv ps rows) (v : VB rows good k) (hg : IsB gv good) {d : Nat} :
    ∀ (c i : Nat) (h : Nat → Option AObj) (nx0 : Nat) (ids : List Nat), i + c = rows.length → Bt h d ids ((List.range i).map fun i => (List.range rows.length).map fun j => (bnth good i == bnth good j)) rows.length 0 → d < nx0 → (∀ y ∈ ids, y < nx0) →
    r07_alike.L0 (.fptr [nv, gv]) (.int .i64 rows.length) (.sl d 1 0 i i) (.int .i64 i) ⟨h, nx0⟩ KL0 = some (mbV rows.length (lkR rows k rows.length (rows.length * rows.length) 0 (L0m good rows.length)), Mem.empty) := by
  intro c
  have n6 := v.n6
  induction c with
  | zero =>
    intro i h nx0 ids h1 B hd hids
    have e : i = rows.length := by omega
    subst e
    have st := lk_w (gv := gv) hn v (rows.length * rows.length) 0 h nx0 _ (by omega) B (by simp)
    simp only [Int.ofNat_zero, Int.cast_ofNat_Int] at st
    rw [r07_alike.L0_eq]
    simp [KL0]
    exact st
  | succ c ih =>
    intro i h nx0 ids h1 B hd hids
    have hi : i < rows.length := by omega
    have B2 : Bt (upd h nx0 (some (.cells []))) d ids ((List.range i).map fun i => (List.range rows.length).map fun j => (bnth good i == bnth good j)) rows.length 0 := B.fr (updNe (by omega)) (fun y hy => updNe (by have := hids y hy; omega))
    have st := lk_f (gv := gv) (nv := nv) (s := i) (d := d) (ids := ids) hg v.gl n6 hi (by simp) (r := (mbV rows.length (lkR rows k rows.length (rows.length * rows.length) 0 (L0m good rows.length)), Mem.empty)) rows.length 0 (upd h nx0 (some (.cells []))) (nx0 + 1) nx0 [] (by omega) rfl B2 (by simp [bls]) (by omega) (fun e => by have := hids _ e; omega) (by omega) (by omega) (fun y hy => by have := hids y hy; omega) (fun h' nx' g1 g2 => by
      have e1 : ((List.range i).map fun i => (List.range rows.length).map fun j => (bnth good i == bnth good j)) ++ [[] ++ (List.range' 0 rows.length).map fun j => (bnth good i == bnth good j)] = (List.range (i + 1)).map fun i => (List.range rows.length).map fun j => (bnth good i == bnth good j) := by rw [List.range_succ, List.map_append, ← List.range_eq_range']; rfl
      rw [e1] at g1
      have := ih (i + 1) h' nx' (ids ++ [nx0]) (by omega) g1 (by omega) (fun y hy => by
        rcases List.mem_append.1 hy with hy | hy
        · have := hids y hy; omega
        · simp at hy; omega)
      simp only [Int.natCast_add, Int.cast_ofNat_Int] at this
      exact this)
    simp only [Int.ofNat_zero, Int.cast_ofNat_Int] at st
    rw [r07_alike.L0_eq]
    simp [hi]
    exact st
theorem alike_spec {nv gv : AV} {ps : List AV} {rows : List (List Int)} {good : List Bool} {k : Nat} (hn : IsRows nv ps rows) (hg : IsB gv good) (v : VB rows good k) (m : Mem) :
    denC prog ann 67 [.agg [nv, gv]] m = some (mbV rows.length (lkR rows k rows.length (rows.length * rows.length) 0 (L0m good rows.length)), m) := by
  rw [r07_alike.call_eq _ _ (by simp [hn.closed, hg.closed])]
  have B0 : Bt (upd Mem.empty.h 0 (some (.cells []))) 0 [] ((List.range 0).map fun i => (List.range rows.length).map fun j => (bnth good i == bnth good j)) rows.length 0 := ⟨by simp, rfl, by simp, by simp, by simp, by simp⟩
  have st := lk_d (gv := gv) (nv := nv) hn v hg (d := 0) rows.length 0 (upd Mem.empty.h 0 (some (.cells []))) 1 [] (by omega) B0 (by omega) (by simp)
  simp only [Int.ofNat_zero, Int.cast_ofNat_Int, KL0] at st
  simp [hn.one, hg.one, hn.closed, hg.closed, hn.len]
  rw [st]
  rfl
end Go.Proofs.Ythnpflkpjimkfaa

/-
  THE SMALLEST FORM: the specification numbers states. Conditions: none.
-/
namespace Go.Proofs.Ythnpflkpjimkfaa
open Go.AM
open Go.Proofs.Try (prog)
set_option linter.all false
set_option maxRecDepth 100000
set_option maxHeartbeats 8000000
def lastI (p : Nat → Bool) : List Nat → Nat → Int → Int
  | [], _, v => v
  | t :: l, j, v => lastI p l (j + 1) (if p t = true then (j : Int) else v)
theorem lastI_none {p : Nat → Bool} : ∀ {l : List Nat} {j : Nat} {v : Int}, (∀ t ∈ l, p t = false) → lastI p l j v = v
  | [], _, _, _ => rfl
  | t :: l, j, v, h => by
    rw [lastI, h t (by simp)]
    exact lastI_none fun u hu => h u (by simp [hu])
section
variable {al : Nat → Nat → Bool} {nxt : Nat → Nat → Nat} {k n : Nat}
theorem lastI_eq (L : Lik al nxt k n) {s : Nat} (hs : s < n) : ∀ {F : List Nat} {j : Nat} {v : Int}, F.Pairwise (fun t u => al u t = false) → (∀ t ∈ F, t < n) → lastI (al s) F j v = if F.any (al s) = true then ((j + idxA al F s : Nat) : Int) else v
  | [], j, v, _, _ => rfl
  | t :: F, j, v, hp, hF => by
    rw [List.pairwise_cons] at hp
    have ht := hF t (by simp)
    rw [lastI, List.any_cons, idxA, List.findIdx_cons]
    cases e : al s t with
    | true =>
      have : ∀ u ∈ F, al s u = false := fun u hu => by
        rcases q : al s u with _ | _
        · rfl
        · have hu' := hF u (by simp [hu])
          have := L.tr u s t hu' hs ht (L.sy s u hs hu' q) e
          rw [hp.1 u hu] at this
          cases this
      rw [if_pos rfl, lastI_none this]
      simp
    | false =>
      rw [if_neg (by simp), lastI_eq L hs hp.2 (fun u hu => hF u (by simp [hu]))]
      simp [idxA]
      by_cases q : ∃ x ∈ F, al s x = true
      · rw [if_pos q, if_pos q]; omega
      · rw [if_neg q, if_neg q]
theorem ded_pw : ∀ (R P : List Nat), P.Pairwise (fun t u => al u t = false) → (R.foldl (fun P s => numS al s P) P).Pairwise (fun t u => al u t = false)
  | [], P, h => h
  | r :: R, P, h => by
    refine ded_pw R (numS al r P) ?_
    rw [numS]
    split
    · exact h
    · rename_i c
      rw [List.pairwise_append]
      refine ⟨h, by simp, ?_⟩
      intro t ht u hu
      simp at hu
      subst hu
      rcases q : al u t with _ | _
      · rfl
      · exact absurd (List.any_eq_true.2 ⟨t, ht, q⟩) c
theorem ded_take_succ {R : List Nat} {i q : Nat} (h : R[i]? = some q) : ded al (R.take (i + 1)) = numS al q (ded al (R.take i)) := by
  rw [List.take_add_one, h]
  show ded al (R.take i ++ [q]) = _
  rw [ded_app]; rfl
variable {β : Type} {ext : β → Nat → β}
theorem bfsA_ok (L : Lik al nxt k n) {ln : β → Nat} (hex : ∀ w a, ln (ext w a) ≤ ln w + 1) : ∀ (f i : Nat) (S : List Nat × List β), BOk (· < n) ln S → i ≤ S.1.length → n < f + i → (∀ s ∈ S.1.take i, ∀ a, a < k → nxt s a ∈ S.1) →
    BOk (· < n) ln (bfsA nxt ext k f i S) ∧ ∀ s ∈ (bfsA nxt ext k f i S).1, ∀ a, a < k → nxt s a ∈ (bfsA nxt ext k f i S).1 := by
  intro f
  induction f with
  | zero =>
    intro i S hS hi hf
    have := nodup_sub hS.nd (L := List.range n) fun x hx => List.mem_range.2 (hS.all x hx)
    simp at this
    omega
  | succ f ih =>
    intro i S hS hi hf hcl
    by_cases c : i < S.1.length
    · have hx := List.getElem?_eq_getElem c
      have c2 : i < S.2.length := by rw [← hS.len]; exact c
      have hw := List.getElem?_eq_getElem c2
      generalize S.1[i] = q at hx
      generalize S.2[i] = w at hw
      have hq : q < n := hS.all q (List.mem_of_getElem? hx)
      rw [bfsA, hx, hw]
      simp only []
      have hS' := bIn_ok nxt ext (ok := (· < n)) (ln := ln) (k := k) (fun x a hx ha => L.cl x a hx ha) hex q w hq k 0 S (by omega) hS (hS.wl w (List.mem_of_getElem? hw))
      obtain ⟨p, p', e1, e2⟩ := bIn_pre nxt ext q w k 0 S
      refine ih (i + 1) _ hS' (by rw [e1]; simp; omega) (by omega) ?_
      have ht : (bIn nxt ext q w k 0 S).1.take (i + 1) = S.1.take i ++ [q] := by rw [e1, List.take_append_of_le_length (by omega), List.take_add_one, hx]; rfl
      rw [ht]
      intro s hs a ha
      rcases List.mem_append.1 hs with hs | hs
      · rw [e1]; exact List.mem_append_left _ (hcl s hs a ha)
      · simp at hs
        subst hs
        exact bIn_has s w k 0 S a (by omega) (by omega)
    · have hx : S.1[i]? = none := List.getElem?_eq_none (by omega)
      have e : bfsA nxt ext k (f + 1) i S = S := by rw [bfsA, hx]
      rw [e]
      refine ⟨hS, fun s hs a ha => hcl s ?_ a ha⟩
      rw [List.take_of_length_le (by omega)]; exact hs
end
theorem lik_alB {rows : List (List Int)} {good : List Bool} {k : Nat} (v : VB rows good k) : Lik (alB rows good k) (nx rows) k rows.length :=
  ⟨fun s _ => alB_refl s, fun s t _ _ h => alB_iff.2 (alk_symm (alB_iff.1 h)), fun s t u _ _ _ h g => alB_iff.2 (alk_trans (alB_iff.1 h) (alB_iff.1 g)), fun s t a _ _ ha h => alB_iff.2 (alk_step (alB_iff.1 h) ha), fun s a hs ha => (nx_lt v hs ha).1⟩
theorem rch_ok {rows : List (List Int)} {good : List Bool} {k : Nat} (v : VB rows good k) : BOk (· < rows.length) List.length (rchS rows k) ∧ ∀ s ∈ (rchS rows k).1, ∀ a, a < k → nx rows s a ∈ (rchS rows k).1 :=
  bfsA_ok (lik_alB v) (fun w a => by simp [extL, ltr]) (rows.length + 1) 0 ([0], [[]]) ⟨by simp, by have := v.n1; intro x hx; simp at hx; omega, rfl, by simp⟩ (by simp) (by omega) (by simp)
noncomputable def repL (rows : List (List Int)) (good : List Bool) (k : Nat) : List Nat := ded (alB rows good k) (rchS rows k).1
theorem repL_eq {rows : List (List Int)} {good : List Bool} {k : Nat} (v : VB rows good k) : bldN (alB rows good k) (nx rows) k (rows.length + 1) 0 [0] = repL rows good k := by
  have n1 := v.n1
  have := bfs_ded (ext := extL) (ln := List.length) (lik_alB v) (fun w a => by simp [extL, ltr]) (rows.length + 1) 0 ([0], [([] : List UInt8)]) ⟨by simp, by intro x hx; simp at hx; omega, rfl, by simp⟩ (by simp) (by omega) (by simp) (rows.length + 1) (by omega)
  exact this
end Go.Proofs.Ythnpflkpjimkfaa

/-
  THE SMALLEST FORM: the specification's numbers in memory. Conditions: none.
-/
namespace Go.Proofs.Ythnpflkpjimkfaa
open Go.AM
open Go.Proofs.Try (prog)
set_option linter.all false
set_option maxRecDepth 100000
set_option maxHeartbeats 8000000
theorem encS_head {R : List Nat} {i q : Nat} (h : R[i]? = some q) : ((R.map encS).drop i).head? = some (.int .i64 (q : Int)) := by
  rw [List.head?_drop]
  simp [h, encS]
theorem mbV_head {n : Nat} {L : MB} {i : Nat} (h : i < L.length) : ((L.map fun r => AV.fsl false n (bls r)).drop i).head? = some (.fsl false n (bls (brw L i))) := by
  rw [List.head?_drop]
  simp [h, brw, List.getD_eq_getElem?_getD]
noncomputable def KT0 : List Item := [.code r07_Smallest.r16, .code r07_Smallest.r17, .code r07_Smallest.k4, .code r07_Smallest.r26, .code .ret]
noncomputable def KT2 : List Item := .code r07_Smallest.r13 :: .code r07_Smallest.i3 :: .inBlock 1 :: .code r07_Smallest.r6 :: .inLoop r07_Smallest.l0 :: .inBlock 0 :: KT0
theorem rs_k {x1 x2 : AV} {n : Nat} (n6 : n ≤ 6) {al : Nat → Nat → Bool} {L : MB} (hL : Wf n L) (hal : ∀ s t, s < n → t < n → mth L s t = al s t) {R F : List Nat} {N f i q : Nat} (hi : i < R.length) (hq : R[i]? = some q) (hqn : q < n) (hF : ∀ t ∈ F, t < n) (hfl : F.length ≤ 6) {Nb : List Int} (hNb : Nb.length = n) (hNf : N ≠ f) {r : Res} :
    ∀ (c j : Nat) (h : Nat → Option AObj) (nx0 : Nat) (w : Int), j + c = F.length → h N = some (.cells (ints (Nb.set q w))) → h f = some (.cells (F.map encS)) → N < nx0 → f < nx0 →
    (∀ h' nx', h' N = some (.cells (ints (Nb.set q (lastI (al q) (F.drop j) j w)))) → nx0 ≤ nx' → (∀ y, y ≠ N → h' y = h y) →
      r07_Smallest.L2 x1 x2 (.fsl false R.length (R.map encS)) (mbV n L) (.sl N 1 0 n n) (.sl f 1 0 F.length F.length) (.int .i64 i) (.int .i64 F.length) ⟨h', nx'⟩ KT2 = some r) →
    r07_Smallest.L2 x1 x2 (.fsl false R.length (R.map encS)) (mbV n L) (.sl N 1 0 n n) (.sl f 1 0 F.length F.length) (.int .i64 i) (.int .i64 j) ⟨h, nx0⟩ KT2 = some r := by
  intro c
  induction c with
  | zero =>
    intro j h nx0 w h1 hN hf hN0 hf0 hk
    have e : j = F.length := by omega
    subst e
    have hk := hk h nx0 (by rw [List.drop_of_length_le (by omega)]; exact hN) (Nat.le_refl _) (fun _ _ => rfl)
    exact hk
  | succ c ih =>
    intro j h nx0 w h1 hN hf hN0 hf0 hk
    have hj : j < F.length := by omega
    have hwj : IntKind.wrap .i64 ((j : Int) + 1) = (j : Int) + 1 := wrap_id (by omega) (by omega)
    have hd := List.drop_eq_getElem_cons hj
    rw [hd, lastI] at hk
    have ht := hF F[j] (List.getElem_mem _)
    have h2 := mbV_head (n := n) (i := q) (L := L) (by rw [hL.l]; exact hqn)
    have h3 := bls_head (bs := brw L q) (i := F[j]) (by rw [hL.r q hqn]; exact ht)
    have h4 : bnth (brw L q) F[j] = al q F[j] := hal q F[j] hqn ht
    rw [h4] at h3
    have hll : (Nb.set q w).length = n := by simp [hNb]
    cases e : al q F[j] with
    | true =>
      rw [e] at h3 hk
      have st := ih (j + 1) (upd h N (some (.cells (ints (Nb.set q j))))) (nx0 + 13) j (by omega) (by simp) (by rw [updNe hNf.symm]; exact hf) (by omega) (by omega) (fun h' nx' g1 g2 g3 => hk h' nx' (by simpa using g1) (by omega) (fun y hy => by rw [g3 y hy]; exact updNe hy))
      simp only [Int.natCast_add, Int.cast_ofNat_Int] at st
      rw [r07_Smallest.L2_eq]
      simp [hj, hi, encS_head hq, mbV, hL.l, hqn, h2, hf, encS, ht, h3, hN, hNb, hwj]
      simp only [mbV, encS, hL.l] at st
      exact st
    | false =>
      rw [e] at h3 hk
      have st := ih (j + 1) h (nx0 + 13) w (by omega) hN hf (by omega) (by omega) (fun h' nx' g1 g2 g3 => hk h' nx' (by simpa using g1) (by omega) g3)
      simp only [Int.natCast_add, Int.cast_ofNat_Int] at st
      rw [r07_Smallest.L2_eq]
      simp [hj, hi, encS_head hq, mbV, hL.l, hqn, h2, hf, encS, ht, h3, hwj]
      simp only [mbV, encS, hL.l] at st
      exact st
theorem nth_set {l : List Int} {i j : Nat} {x : Int} (h : i < l.length) : nth (l.set i x) j = if i = j then x else nth l j := by
  simp only [nth, List.getD_eq_getElem?_getD, List.getElem?_set]
  by_cases e : i = j
  · subst e; simp [h]
  · simp [e]
theorem idxA_last {al : Nat → Nat → Bool} {s : Nat} {P : List Nat} (hr : al s s = true) (c : ¬ P.any (al s) = true) : idxA al (P ++ [s]) s = P.length := by
  have hn : ¬ List.findIdx (al s) P < P.length := by
    rw [List.findIdx_lt_length]
    simpa using c
  rw [idxA, List.findIdx_append, if_neg hn]
  simp [hr]
theorem idxA_lt {al : Nat → Nat → Bool} {s : Nat} {P : List Nat} (c : P.any (al s) = true) : idxA al P s < P.length := by
  rw [idxA, List.findIdx_lt_length]
  simpa using c
theorem rs_o {x1 x2 : AV} {n k : Nat} {nxt : Nat → Nat → Nat} (n6 : n ≤ 6) {al : Nat → Nat → Bool} (Lk : Lik al nxt k n) {L : MB} (hL : Wf n L) (hal : ∀ s t, s < n → t < n → mth L s t = al s t) {R : List Nat} (hRn : R.Nodup) (hR : ∀ s ∈ R, s < n) {N f : Nat} (hNf : N ≠ f) {r : Res} :
    ∀ (c i : Nat) (h : Nat → Option AObj) (nx0 : Nat) (Na : List Int), i + c = R.length → Na.length = n → h N = some (.cells (ints Na)) → h f = some (.cells ((ded al (R.take i)).map encS)) → N < nx0 → f < nx0 → (∀ s ∈ R.take i, nth Na s = idxA al (ded al (R.take i)) s) →
    (∀ h' nx' Na', Na'.length = n → h' N = some (.cells (ints Na')) → h' f = some (.cells ((ded al R).map encS)) → (∀ s ∈ R, nth Na' s = idxA al (ded al R) s) → nx0 ≤ nx' → (∀ y, y ≠ N → y ≠ f → h' y = h y) →
      r07_Smallest.L0 x1 x2 (.fsl false R.length (R.map encS)) (mbV n L) (.sl N 1 0 n n) (.sl f 1 0 (ded al R).length (ded al R).length) (.int .i64 R.length) ⟨h', nx'⟩ KT0 = some r) →
    r07_Smallest.L0 x1 x2 (.fsl false R.length (R.map encS)) (mbV n L) (.sl N 1 0 n n) (.sl f 1 0 (ded al (R.take i)).length (ded al (R.take i)).length) (.int .i64 i) ⟨h, nx0⟩ KT0 = some r := by
  intro c
  have hR6 : R.length ≤ 6 := few6 n6 hRn hR
  induction c with
  | zero =>
    intro i h nx0 Na h1 hl hN hf hN0 hf0 hNa hk
    have e : i = R.length := by omega
    subst e
    rw [List.take_length] at *
    exact hk h nx0 Na hl hN hf hNa (Nat.le_refl _) (fun _ _ _ => rfl)
  | succ c ih =>
    intro i h nx0 Na h1 hl hN hf hN0 hf0 hNa hk
    have hi : i < R.length := by omega
    have hq := List.getElem?_eq_getElem hi
    have hqm : R[i] ∉ R.take i := by
      intro hm
      obtain ⟨j, hj, e⟩ := List.getElem_of_mem hm
      have hj' : j < i := by simp at hj; omega
      have pw := List.pairwise_iff_getElem.1 hRn j i (by omega) hi hj'
      simp at e
      exact pw e
    generalize R[i] = q at hq hqm
    have hqn : q < n := hR q (List.mem_of_getElem? hq)
    have hds := ded_take_succ (al := al) hq
    have htk : R.take (i + 1) = R.take i ++ [q] := by rw [List.take_add_one, hq]; rfl
    have IH := ih (i + 1)
    rw [hds] at IH
    have hTn : ∀ s ∈ R.take i, s < n := fun s hs => hR s (List.mem_of_mem_take hs)
    have hFn : ∀ t ∈ ded al (R.take i), t < n := fun t ht => hTn t (ded_mem ht)
    have hpw : (ded al (R.take i)).Pairwise (fun t u => al u t = false) := ded_pw _ [] (by simp)
    have hany := fun s hs => ded_any Lk (R.take i) hTn s hs
    have hF6 : (ded al (R.take i)).length ≤ 6 := by
      have := ded_len (al := al) (R.take i) []
      simp [List.length_take] at this
      have e : (ded al (R.take i)).length ≤ min i R.length := this
      omega
    have hwi : IntKind.wrap .i64 ((i : Int) + 1) = (i : Int) + 1 := wrap_id (by omega) (by omega)
    generalize ded al (R.take i) = F at *
    have hlast := lastI_eq Lk hqn (F := F) (j := 0) (v := -1) hpw hFn
    have hset : ∀ (Na' : List Int) (F' : List Nat), numS al q F = F' → Na'.length = n → (∀ j, j ≠ q → nth Na' j = nth Na j) → nth Na' q = (idxA al F' q : Nat) → ∀ s ∈ R.take (i + 1), nth Na' s = idxA al F' s := by
      intro Na' F' e1 e2 e3 e4 s hs
      rw [htk] at hs
      rcases List.mem_append.1 hs with hs | hs
      · obtain ⟨l, hl'⟩ := numS_pre (al := al) q F
        rw [e3 s (fun e => hqm (e ▸ hs)), hNa s hs, ← e1, hl', idxA_app (hany s hs)]
      · simp at hs; subst hs; exact e4
    have st := rs_k (x1 := x1) (x2 := x2) n6 hL hal (R := R) (F := F) (N := N) (f := f) (i := i) (q := q) hi hq hqn hFn hF6 hl hNf (r := r) F.length 0 (upd h N (some (.cells (ints (Na.set q (-1)))))) nx0 (-1) (by omega) (by simp) (by rw [updNe hNf.symm]; exact hf) hN0 hf0 (fun h' nx' g1 g2 g3 => by
      rw [List.drop_zero, hlast] at g1
      have gf : h' f = some (.cells (F.map encS)) := by rw [g3 f hNf.symm, updNe hNf.symm, hf]
      by_cases ca : F.any (al q) = true
      · rw [if_pos ca, Nat.zero_add] at g1
        have e1 : numS al q F = F := by rw [numS, if_pos ca]
        rw [e1] at IH
        have st2 := IH h' nx' (Na.set q (idxA al F q : Nat)) (by omega) (by simp [hl]) g1 gf (by omega) (by omega) (hset _ F e1 (by simp [hl]) (fun j hj => by rw [nth_set (by omega), if_neg (Ne.symm hj)]) (by rw [nth_set (by omega), if_pos rfl])) (fun h2 nx2 Na2 f1 f2 f3 f4 f5 f6 => hk h2 nx2 Na2 f1 f2 f3 f4 (by omega) (fun y y1 y2 => by rw [f6 y y1 y2, g3 y y1, updNe y1]))
        simp only [Int.natCast_add, Int.cast_ofNat_Int] at st2
        rw [r07_Smallest.L2_eq]
        simp [KT2, hi, encS_head hq, hqn, g1, hl, hwi, nth_set (show q < Na.length by omega), show ¬ ((idxA al F q : Nat) : Int) < 0 by omega]
        exact st2
      · rw [if_neg ca] at g1
        have e1 : numS al q F = F ++ [q] := by rw [numS, if_neg ca]
        rw [e1] at IH
        have hix := idxA_last (Lk.rf q hqn) ca
        have hfN : (f == N) = false := beq_eq_false_iff_ne.2 (Ne.symm hNf)
        have st2 := IH (upd (upd h' N (some (.cells (ints ((Na.set q (-1)).set q F.length))))) f (some (.cells ((F ++ [q]).map encS)))) nx' ((Na.set q (-1)).set q F.length) (by omega) (by simp [hl]) (by rw [updNe hNf]; simp) (by simp) (by omega) (by omega) (hset _ (F ++ [q]) e1 (by simp [hl]) (fun j hj => by rw [nth_set (by simp; omega), if_neg (Ne.symm hj), nth_set (by omega), if_neg (Ne.symm hj)]) (by rw [nth_set (by simp; omega), if_pos rfl, hix])) (fun h2 nx2 Na2 f1 f2 f3 f4 f5 f6 => hk h2 nx2 Na2 f1 f2 f3 f4 (by omega) (fun y y1 y2 => by rw [f6 y y1 y2, updNe y2, updNe y1, g3 y y1, updNe y1]))
        simp only [Int.natCast_add, Int.cast_ofNat_Int] at st2
        rw [r07_Smallest.L2_eq]
        simp [KT2, hi, encS_head hq, hqn, g1, gf, hl, hwi, hfN, nth_set (show q < Na.length by omega), encS, show F.length ≤ 4611686018427387903 by omega, show (F.length + 1) * 8 ≤ 70368744177664 by omega]
        simp [encS] at st2
        exact st2)
    simp only [Int.ofNat_zero, Int.cast_ofNat_Int] at st
    rw [r07_Smallest.L0_eq]
    simp [hi, encS_head hq, hqn, hN, hl]
    exact st
end Go.Proofs.Ythnpflkpjimkfaa

/-
  THE SMALLEST FORM: the program marks states that differ. Conditions: none.
-/
namespace Go.Proofs.Ythnpflkpjimkfaa
open Go.AM
open Go.Proofs.Try (prog)
set_option linter.all false
set_option maxRecDepth 100000
set_option maxHeartbeats 8000000
noncomputable def K4 : List Item := [.code brand_smallest.r30, .code brand_smallest.r31, .code brand_smallest.r32, .code brand_smallest.r33, .code brand_smallest.k12, .code brand_smallest.r43, .code .ret]
noncomputable def K6 : List Item := .inBlock 5 :: .inLoop brand_smallest.l4 :: .inBlock 4 :: K4
noncomputable def K8 : List Item := .inBlock 7 :: .code brand_smallest.r29 :: .inLoop brand_smallest.l6 :: .inBlock 6 :: K6
noncomputable def K10 : List Item := .inBlock 9 :: .code brand_smallest.r28 :: .inLoop brand_smallest.l8 :: .inBlock 8 :: K8
theorem sm_a {nv gv : AV} {ps : List AV} {rows : List (List Int)} {good : List Bool} {k : Nat} (hn : IsRows nv ps rows) (v : VB rows good k) {x2 : AV} {d : Nat} {ids : List Nat} {i j : Nat} (hi : i < rows.length) (hj : j < rows.length) {r : Res} :
    ∀ (c a : Nat) (h : Nat → Option AObj) (nx0 : Nat) (P : PB), a + c = k → Bt h d ids P.1 rows.length 0 → P.1.length = rows.length →
    (∀ h' nx', Bt h' d ids (mkA rows i j c a P).1 rows.length 0 → (mkA rows i j c a P).1.length = rows.length → nx0 ≤ nx' → (∀ y, y ∉ ids → h' y = h y) →
      brand_smallest.L8 (.fptr [nv, gv]) x2 (.int .i64 rows.length) (.sptr [.sl d 1 0 rows.length rows.length]) (.bool (mkA rows i j c a P).2) (.int .i64 i) (.int .i64 rows.length) (.int .i64 i) (.int .i64 rows.length) (.int .i64 ((j : Int) + 1)) ⟨h', nx'⟩ K8 = some r) →
    brand_smallest.L10 (.fptr [nv, gv]) x2 (.int .i64 rows.length) (.sptr [.sl d 1 0 rows.length rows.length]) (.bool P.2) (.int .i64 i) (.int .i64 j) (.int .i64 rows.length) (.int .i64 i) (.int .i64 rows.length) (.int .i64 j) (.int .i64 k) (.int .i64 a) ⟨h, nx0⟩ K10 = some r := by
  intro c
  have n6 := v.n6
  have k3 := v.k3
  induction c with
  | zero =>
    intro a h nx0 P h1 B hl hk
    have e : a = k := by omega
    subst e
    have hwj : IntKind.wrap .i64 ((j : Int) + 1) = (j : Int) + 1 := wrap_id (by omega) (by omega)
    have hk := hk h nx0 B hl (Nat.le_refl _) (fun _ _ => rfl)
    rw [brand_smallest.L10_eq]
    simp [K10, hwj]
    exact hk
  | succ c ih =>
    intro a h nx0 P h1 B hl hk
    have ha : a < k := by omega
    have hwa : IntKind.wrap .i64 ((a : Int) + 1) = (a : Int) + 1 := wrap_id (by omega) (by omega)
    obtain ⟨c1, c2⟩ := nx_lt v hi ha
    obtain ⟨c1', c2'⟩ := nx_lt v hj ha
    have b := v.rl i hi
    have b' := v.rl j hj
    have iw1 := hn.row i hi
    have iw2 := hn.row j hj
    have d1 := iw1.idx (i := a) (by omega) .i64
    have d2 := iw2.idx (i := a) (by omega) .i64
    have e1 := ints_head (l := cth rows i) (i := a) (by omega)
    have e2 := ints_head (l := cth rows j) (i := a) (by omega)
    rw [c2] at e1
    rw [c2'] at e2
    have l1 := fun n' => B.ld0 (i := i) (by omega) n'
    have l2 := fun n' => B.get (i := i) (j := j) (by omega) hj n'
    have l3 := fun n' => B.ld0 (i := nx rows i a) (by omega) n'
    have l4 := fun n' => B.get (i := nx rows i a) (j := nx rows j a) (by omega) c1' n'
    rw [hl] at l1 l3
    have es : mkA rows i j (c + 1) a P = mkA rows i j c (a + 1) (mk1 rows i j P a) := by rw [mkA, List.range'_succ, List.foldl_cons, mkA]
    rw [es] at hk
    rcases q : mth P.1 i j with _ | _
    · rcases q2 : mth P.1 (nx rows i a) (nx rows j a) with _ | _
      · have e3 : mk1 rows i j P a = P := by rw [mk1, q2]; simp
        rw [e3] at hk
        have st := ih (a + 1) h (nx0 + 31) P (by omega) B hl (fun h' nx' g1 g2 g3 g4 => hk h' nx' g1 g2 (by omega) g4)
        simp only [Int.natCast_add, Int.cast_ofNat_Int] at st
        rw [q] at l2
        rw [q2] at l4
        rw [brand_smallest.L10_eq]
        simp [ha, hi, hj, l1, l2, l3, l4, hn.idx hi, hn.head hi, hn.idx hj, hn.head hj, d1, d2, e1, e2, c1, c1', hwa, st]
        done
      · have e3 : mk1 rows i j P a = (setM P.1 i j true, true) := by rw [mk1, if_pos ⟨q, q2⟩]
        rw [e3] at hk
        have hm := B.rm (i := i) (by omega)
        obtain ⟨p1, p2⟩ := B.put (i := i) (j := j) (by omega) hj true (nx0 + 31)
        have st := ih (a + 1) _ (nx0 + 31) (setM P.1 i j true, true) (by omega) p2 (by simpa [setM] using hl) (fun h' nx' g1 g2 g3 g4 => hk h' nx' g1 g2 (by omega) (fun y hy => by rw [g4 y hy]; exact updNe (fun e => hy (e ▸ hm))))
        simp only [Int.natCast_add, Int.cast_ofNat_Int] at st
        rw [q] at l2
        rw [q2] at l4
        rw [brand_smallest.L10_eq]
        simp [ha, hi, hj, l1, l2, l3, l4, hn.idx hi, hn.head hi, hn.idx hj, hn.head hj, d1, d2, e1, e2, c1, c1', hwa, p1, -stA_ptr, st]
        done
    · have e3 : mk1 rows i j P a = P := by rw [mk1, q]; simp
      rw [e3] at hk
      have st := ih (a + 1) h (nx0 + 31) P (by omega) B hl (fun h' nx' g1 g2 g3 g4 => hk h' nx' g1 g2 (by omega) g4)
      simp only [Int.natCast_add, Int.cast_ofNat_Int] at st
      rw [q] at l2
      rw [brand_smallest.L10_eq]
      simp [ha, hi, hj, l1, l2, hwa, st]
      done
theorem mkJ_succ (rows : List (List Int)) (k i c j : Nat) (P : PB) : mkJ rows k i (c + 1) j P = mkJ rows k i c (j + 1) (mkA rows i j k 0 P) := by rw [mkJ, List.range'_succ, List.foldl_cons, mkJ]
theorem mkI_succ (rows : List (List Int)) (k n c i : Nat) (P : PB) : mkI rows k n (c + 1) i P = mkI rows k n c (i + 1) (mkJ rows k i n 0 P) := by rw [mkI, List.range'_succ, List.foldl_cons, mkI]
theorem sm_j {nv gv : AV} {ps : List AV} {rows : List (List Int)} {good : List Bool} {k : Nat} (hn : IsRows nv ps rows) (v : VB rows good k) {x2 : AV} {d : Nat} {ids : List Nat} {i : Nat} (hi : i < rows.length) {r : Res} :
    ∀ (c j : Nat) (h : Nat → Option AObj) (nx0 : Nat) (P : PB), j + c = rows.length → Bt h d ids P.1 rows.length 0 → P.1.length = rows.length →
    (∀ h' nx', Bt h' d ids (mkJ rows k i c j P).1 rows.length 0 → (mkJ rows k i c j P).1.length = rows.length → nx0 ≤ nx' → (∀ y, y ∉ ids → h' y = h y) →
      brand_smallest.L6 (.fptr [nv, gv]) x2 (.int .i64 rows.length) (.sptr [.sl d 1 0 rows.length rows.length]) (.bool (mkJ rows k i c j P).2) (.int .i64 rows.length) (.int .i64 ((i : Int) + 1)) ⟨h', nx'⟩ K6 = some r) →
    brand_smallest.L8 (.fptr [nv, gv]) x2 (.int .i64 rows.length) (.sptr [.sl d 1 0 rows.length rows.length]) (.bool P.2) (.int .i64 i) (.int .i64 rows.length) (.int .i64 i) (.int .i64 rows.length) (.int .i64 j) ⟨h, nx0⟩ K8 = some r := by
  intro c
  have n6 := v.n6
  induction c with
  | zero =>
    intro j h nx0 P h1 B hl hk
    have e : j = rows.length := by omega
    subst e
    have hwi : IntKind.wrap .i64 ((i : Int) + 1) = (i : Int) + 1 := wrap_id (by omega) (by omega)
    have hk := hk h nx0 B hl (Nat.le_refl _) (fun _ _ => rfl)
    rw [brand_smallest.L8_eq]
    simp [K8, hwi]
    exact hk
  | succ c ih =>
    intro j h nx0 P h1 B hl hk
    have hj : j < rows.length := by omega
    rw [mkJ_succ] at hk
    have iw1 := hn.row i hi
    have b := v.rl i hi
    have st := sm_a (gv := gv) (x2 := x2) hn v hi hj (r := r) k 0 h nx0 P (by omega) B hl (fun h' nx' g1 g2 g3 g4 => by
      have := ih (j + 1) h' nx' _ (by omega) g1 g2 (fun h'' nx'' f1 f2 f3 f4 => hk h'' nx'' f1 f2 (by omega) (fun y hy => by rw [f4 y hy, g4 y hy]))
      simp only [Int.natCast_add, Int.cast_ofNat_Int] at this
      exact this)
    simp only [Int.ofNat_zero, Int.cast_ofNat_Int] at st
    rw [brand_smallest.L8_eq]
    simp [hj, hn.idx hi, hn.head hi, iw1.len, b]
    exact st
theorem sm_i {nv gv : AV} {ps : List AV} {rows : List (List Int)} {good : List Bool} {k : Nat} (hn : IsRows nv ps rows) (v : VB rows good k) {x2 : AV} {d : Nat} {ids : List Nat} {r : Res} :
    ∀ (c i : Nat) (h : Nat → Option AObj) (nx0 : Nat) (P : PB), i + c = rows.length → Bt h d ids P.1 rows.length 0 → P.1.length = rows.length →
    (∀ h' nx', Bt h' d ids (mkI rows k rows.length c i P).1 rows.length 0 → (mkI rows k rows.length c i P).1.length = rows.length → nx0 ≤ nx' → (∀ y, y ∉ ids → h' y = h y) →
      brand_smallest.L4 (.fptr [nv, gv]) x2 (.int .i64 rows.length) (.sptr [.sl d 1 0 rows.length rows.length]) (.bool (mkI rows k rows.length c i P).2) ⟨h', nx'⟩ K4 = some r) →
    brand_smallest.L6 (.fptr [nv, gv]) x2 (.int .i64 rows.length) (.sptr [.sl d 1 0 rows.length rows.length]) (.bool P.2) (.int .i64 rows.length) (.int .i64 i) ⟨h, nx0⟩ K6 = some r := by
  intro c
  have n6 := v.n6
  induction c with
  | zero =>
    intro i h nx0 P h1 B hl hk
    have e : i = rows.length := by omega
    subst e
    have hk := hk h nx0 B hl (Nat.le_refl _) (fun _ _ => rfl)
    rw [brand_smallest.L6_eq]
    simp [K6]
    exact hk
  | succ c ih =>
    intro i h nx0 P h1 B hl hk
    have hi : i < rows.length := by omega
    rw [mkI_succ] at hk
    have st := sm_j (gv := gv) (x2 := x2) hn v hi (r := r) rows.length 0 h nx0 P (by omega) B hl (fun h' nx' g1 g2 g3 g4 => by
      have := ih (i + 1) h' nx' _ (by omega) g1 g2 (fun h'' nx'' f1 f2 f3 f4 => hk h'' nx'' f1 f2 (by omega) (fun y hy => by rw [f4 y hy, g4 y hy]))
      simp only [Int.natCast_add, Int.cast_ofNat_Int] at this
      exact this)
    simp only [Int.ofNat_zero, Int.cast_ofNat_Int] at st
    rw [brand_smallest.L6_eq]
    simp [hi]
    exact st
theorem sm_w {nv gv : AV} {ps : List AV} {rows : List (List Int)} {good : List Bool} {k : Nat} (hn : IsRows nv ps rows) (v : VB rows good k) {x2 : AV} {d : Nat} {ids : List Nat} {r : Res} :
    ∀ (f : Nat) (h : Nat → Option AObj) (nx0 : Nat) (D : MB), Mkd rows good k D → rows.length * rows.length < f + cnt rows.length (mth D) → Bt h d ids D rows.length 0 →
    (∀ h' nx', Bt h' d ids (fixD rows k rows.length f D) rows.length 0 → nx0 ≤ nx' → (∀ y, y ∉ ids → h' y = h y) →
      brand_smallest.L4 (.fptr [nv, gv]) x2 (.int .i64 rows.length) (.sptr [.sl d 1 0 rows.length rows.length]) (.bool false) ⟨h', nx'⟩ K4 = some r) →
    brand_smallest.L4 (.fptr [nv, gv]) x2 (.int .i64 rows.length) (.sptr [.sl d 1 0 rows.length rows.length]) (.bool true) ⟨h, nx0⟩ K4 = some r := by
  intro f
  induction f with
  | zero =>
    intro h nx0 D hM hf B hk
    have := cnt_le rows.length (mth D)
    omega
  | succ f ih =>
    intro h nx0 D hM hf B hk
    obtain ⟨m1, m2, m3⟩ := mkI_law v hM
    rw [fixD] at hk
    have st := sm_i (gv := gv) (x2 := x2) hn v (r := r) rows.length 0 h nx0 (D, false) (by omega) B hM.wf.l (fun h' nx' g1 g2 g3 g4 => by
      rcases q : (mkI rows k rows.length rows.length 0 (D, false)).2 with _ | _
      · rw [q] at hk
        exact hk h' nx' g1 g3 g4
      · rw [q, if_pos rfl] at hk
        exact ih h' nx' _ m1 (by have := m2 q; omega) g1 (fun h'' nx'' f1 f2 f3 => hk h'' nx'' f1 (by omega) (fun y hy => by rw [f3 y hy, g4 y hy])))
    simp only [Int.ofNat_zero, Int.cast_ofNat_Int] at st
    rw [brand_smallest.L4_eq]
    simp
    exact st
end Go.Proofs.Ythnpflkpjimkfaa

/-
  THE SMALLEST FORM: the program's first marks. Conditions: none.
-/
namespace Go.Proofs.Ythnpflkpjimkfaa
open Go.AM
open Go.Proofs.Try (prog)
set_option linter.all false
set_option maxRecDepth 100000
set_option maxHeartbeats 8000000
theorem setM_app (D : MB) (row : List Bool) (j : Nat) (b : Bool) : setM (D ++ [row]) D.length j b = D ++ [row.set j b] := by
  simp [setM, brw, List.getD_eq_getElem?_getD, List.set_append]
def fillR (val : Nat → Bool) (c j : Nat) (row : List Bool) : List Bool := (List.range' j c).foldl (fun r j => r.set j (val j)) row
theorem fillR_succ (val : Nat → Bool) (c j : Nat) (row : List Bool) : fillR val (c + 1) j row = fillR val c (j + 1) (row.set j (val j)) := by rw [fillR, List.range'_succ, List.foldl_cons, fillR]
theorem fillR_eq (val : Nat → Bool) : ∀ (c j : Nat) (row : List Bool), row.length = j + c → fillR val c j row = row.take j ++ (List.range' j c).map val
  | 0, j, row, h => by simp [fillR, List.take_of_length_le (show row.length ≤ j by omega)]
  | c + 1, j, row, h => by
    rw [fillR_succ, fillR_eq val c (j + 1) _ (by simp; omega), List.range'_succ, List.map_cons]
    rw [List.take_add_one, List.take_set_of_le (by omega), List.getElem?_set_self (by omega)]
    simp
theorem fillR_all (val : Nat → Bool) (n : Nat) (row : List Bool) (h : row.length = n) : fillR val n 0 row = (List.range n).map val := by
  rw [fillR_eq val n 0 row (by omega)]; simp [List.range_eq_range']
noncomputable def K0 : List Item := .code brand_smallest.r13 :: .code brand_smallest.k4 :: K4
noncomputable def K2 : List Item := .inBlock 1 :: .code brand_smallest.r12 :: .inLoop brand_smallest.l0 :: .inBlock 0 :: K0
theorem sm_f {nv gv : AV} {good : List Bool} {n : Nat} (hg : IsB gv good) (hgn : good.length = n) (n6 : n ≤ 6) {x2 : AV} {d e : Nat} {ids : List Nat} {D : MB} (hi : D.length + 1 + e = n) {r : Res} :
    ∀ (c j : Nat) (h : Nat → Option AObj) (nx0 : Nat) (row : List Bool), j + c = n → Bt h d ids (D ++ [row]) n e →
    (∀ h' nx', Bt h' d ids (D ++ [fillR (fun j => !(bnth good D.length == bnth good j)) c j row]) n e → nx0 ≤ nx' → (∀ y, y ∉ ids → h' y = h y) →
      brand_smallest.L0 (.fptr [nv, gv]) x2 (.int .i64 n) (.sptr [.sl d 1 0 n n]) (.int .i64 n) (.int .i64 ((D.length : Int) + 1)) ⟨h', nx'⟩ K0 = some r) →
    brand_smallest.L2 (.fptr [nv, gv]) x2 (.int .i64 n) (.sptr [.sl d 1 0 n n]) (.int .i64 D.length) (.int .i64 n) (.int .i64 D.length) (.int .i64 n) (.int .i64 j) ⟨h, nx0⟩ K2 = some r := by
  intro c
  induction c with
  | zero =>
    intro j h nx0 row h1 B hk
    have ej : j = n := by omega
    subst ej
    have hwi : IntKind.wrap .i64 ((D.length : Int) + 1) = (D.length : Int) + 1 := wrap_id (by omega) (by omega)
    have hk := hk h nx0 B (Nat.le_refl _) (fun _ _ => rfl)
    rw [brand_smallest.L2_eq]
    simp [K2, hwi]
    exact hk
  | succ c ih =>
    intro j h nx0 row h1 B hk
    have hj : j < n := by omega
    have hwj : IntKind.wrap .i64 ((j : Int) + 1) = (j : Int) + 1 := wrap_id (by omega) (by omega)
    have hD : D.length < n := by omega
    have l1 := fun n' => B.ld (i := D.length) (by simp) n'
    rw [show (D ++ [row]).length + e = n by simp; omega] at l1
    obtain ⟨p1, p2⟩ := B.put (i := D.length) (j := j) (by simp) hj (!(bnth good D.length == bnth good j)) (nx0 + 17)
    rw [setM_app] at p2
    have hm := B.rm (i := D.length) (by simp)
    rw [fillR_succ] at hk
    have b1 := bls_head (bs := good) (i := D.length) (by omega)
    have b2 := bls_head (bs := good) (i := j) (by omega)
    have st := ih (j + 1) _ (nx0 + 18) (row.set j (!(bnth good D.length == bnth good j))) (by omega) p2 (fun h' nx' g1 g3 g4 => hk h' nx' g1 (by omega) (fun y hy => by rw [g4 y hy]; exact updNe (fun e => hy (e ▸ hm))))
    simp only [Int.natCast_add, Int.cast_ofNat_Int] at st
    rw [brand_smallest.L2_eq]
    simp [hj, hD, l1, hg.idx (i := D.length) (by omega), hg.idx (i := j) (by omega), b1, b2, hwj, p1, -stA_ptr, st]
    done
theorem sm_d {nv gv : AV} {good : List Bool} {n : Nat} (hg : IsB gv good) (hgn : good.length = n) (n6 : n ≤ 6) {x2 : AV} {d : Nat} {r : Res} :
    ∀ (c i : Nat) (h : Nat → Option AObj) (nx0 : Nat) (ids : List Nat), i + c = n → Bt h d ids ((List.range i).map fun i => (List.range n).map fun j => !(bnth good i == bnth good j)) n c → d < nx0 → (∀ y ∈ ids, y < nx0) →
    (∀ h' nx' ids', Bt h' d ids' (D0 good n) n 0 → d < nx' → (∀ y ∈ ids', y < nx') → nx0 ≤ nx' → (∀ y, y < nx0 → y ≠ d → y ∉ ids → h' y = h y) →
      brand_smallest.L4 (.fptr [nv, gv]) x2 (.int .i64 n) (.sptr [.sl d 1 0 n n]) (.bool true) ⟨h', nx'⟩ K4 = some r) →
    brand_smallest.L0 (.fptr [nv, gv]) x2 (.int .i64 n) (.sptr [.sl d 1 0 n n]) (.int .i64 n) (.int .i64 i) ⟨h, nx0⟩ K0 = some r := by
  intro c
  induction c with
  | zero =>
    intro i h nx0 ids h1 B hd hb hk
    have ej : i = n := by omega
    subst ej
    have hk := hk h nx0 ids B hd hb (Nat.le_refl _) (fun _ _ _ _ => rfl)
    rw [brand_smallest.L0_eq]
    simp [K0]
    exact hk
  | succ c ih =>
    intro i h nx0 ids h1 B hd hb hk
    have hi : i < n := by omega
    have hil : ids.length = i := by rw [B.l]; simp
    have hwi : IntKind.wrap .i64 ((i : Int) + 1) = (i : Int) + 1 := wrap_id (by omega) (by omega)
    have hdd : ∀ v, (upd h (nx0 + 3) v) d = some (.cells (ids.map (fun r => AV.sl r 1 0 n n) ++ List.replicate (c + 1) AV.nils)) := fun v => by rw [updNe (by omega), B.o]
    have hll : (ids.map (fun r => AV.sl r 1 0 n n) ++ List.replicate (c + 1) AV.nils).length = n := by simp [hil]; omega
    have hst : stA false 1 ⟨upd h (nx0 + 3) (some (AObj.cells (List.replicate n (AV.bool false)))), nx0 + 5⟩ (.ptr d i n) (.sl (nx0 + 3) 1 0 n n) = some (.tup [], ⟨upd (upd h (nx0 + 3) (some (AObj.cells (List.replicate n (AV.bool false))))) d (some (.cells ((ids.map (fun r => AV.sl r 1 0 n n) ++ List.replicate (c + 1) AV.nils).set i (.sl (nx0 + 3) 1 0 n n)))), nx0 + 5⟩) := by
      rw [stA_ptr]
      show stO false 1 _ d i n _ ((upd h (nx0 + 3) (some (AObj.cells (List.replicate n (AV.bool false))))) d) = _
      rw [hdd, stO_cells0, hll]
      simp [hi, AV.one, Mem.set]
    have hli : ((List.range i).map fun i => (List.range n).map fun j => !(bnth good i == bnth good j)).length = i := by simp
    have B2 := B.add (h' := upd (upd h (nx0 + 3) (some (AObj.cells (List.replicate n (AV.bool false))))) d (some (.cells ((ids.map (fun r => AV.sl r 1 0 n n) ++ List.replicate (c + 1) AV.nils).set i (.sl (nx0 + 3) 1 0 n n))))) (x := nx0 + 3) (row := List.replicate n false) (by omega) (fun q => by have := hb _ q; omega) (by simp) (by rw [hli]; simp) (by rw [updNe (by omega)]; simp [bls]) (fun y hy => by
      have := hb y hy
      rw [updNe (fun e => B.nd' (by rw [← e]; exact hy)), updNe (by omega)])
    have st := sm_f (gv := gv) (nv := nv) (x2 := x2) hg hgn n6 (d := d) (e := c) (ids := ids ++ [nx0 + 3]) (D := (List.range i).map fun i => (List.range n).map fun j => !(bnth good i == bnth good j)) (by rw [hli]; omega) (r := r) n 0 _ (nx0 + 6) (List.replicate n false) (by omega) B2 (fun h' nx' g1 g3 g4 => by
      rw [fillR_all _ n _ (by simp)] at g1
      simp only [hli] at g1 ⊢
      have e1 : ((List.range i).map fun i => (List.range n).map fun j => !(bnth good i == bnth good j)) ++ [(List.range n).map fun j => !(bnth good i == bnth good j)] = (List.range (i + 1)).map fun i => (List.range n).map fun j => !(bnth good i == bnth good j) := by rw [List.range_succ, List.map_append]; rfl
      rw [e1] at g1
      have := ih (i + 1) h' nx' _ (by omega) g1 (by omega) (fun y hy => by
        rcases List.mem_append.1 hy with hy | hy
        · have := hb y hy; omega
        · simp at hy; omega) (fun h'' nx'' ids' f1 f2 f3 f4 f5 => hk h'' nx'' ids' f1 f2 f3 (by omega) (fun y y1 y2 y3 => by
          have hy : y ∉ ids ++ [nx0 + 3] := by simp; exact ⟨y3, by omega⟩
          rw [f5 y (by omega) y2 hy, g4 y hy, updNe y2, updNe (by omega)]))
      simp only [Int.natCast_add, Int.cast_ofNat_Int] at this
      exact this)
    simp only [hli, Int.ofNat_zero, Int.cast_ofNat_Int] at st
    rw [brand_smallest.L0_eq]
    simp [hi, show n ≤ 4611686018427387904 by omega, show n ≤ 70368744177664 by omega, hst, -stA_ptr]
    exact st
end Go.Proofs.Ythnpflkpjimkfaa

/-
  THE SMALLEST FORM: the number of a state (a function's value that keeps a list). Conditions: none.
-/
namespace Go.Proofs.Ythnpflkpjimkfaa
open Go.AM
open Go.Proofs.Try (prog)
set_option linter.all false
set_option maxRecDepth 100000
set_option maxHeartbeats 8000000
section
variable {h : Nat → Option AObj} {d : Nat} {ids : List Nat} {D : MB} {n : Nat} {al : Nat → Nat → Bool}
theorem c82_spec (B : Bt h d ids D n 0) (hDl : D.length = n) (hD : ∀ s t, s < n → t < n → mth D s t = !al s t) {s t : Nat} (hs : s < n) (ht : t < n) (nx : Nat) :
    denC prog ann 82 [.int .i64 (t : Int), .sptr [.sl d 1 0 n n], .fptr [.int .i64 (s : Int)]] ⟨h, nx⟩ = some (.bool (al s t), ⟨h, nx⟩) := by
  have l1 := fun n' => B.ld0 (i := s) (by omega) n'
  have l2 := fun n' => B.get (i := s) (j := t) (by omega) ht n'
  rw [hDl] at l1
  rw [hD s t hs ht] at l2
  rw [brand_smallest_1_1.call_eq]
  simp [hs, ht, l1, l2]
  done
def firstI (p : Nat → Bool) : List Nat → Nat → Int
  | [], _ => -1
  | t :: l, j => if p t = true then (j : Int) else firstI p l (j + 1)
theorem firstI_eq (p : Nat → Bool) : ∀ (l : List Nat) (j : Nat), firstI p l j = if l.any p = true then ((j + l.findIdx p : Nat) : Int) else -1
  | [], j => rfl
  | t :: l, j => by
    rw [firstI, List.findIdx_cons, List.any_cons]
    cases e : p t with
    | true => simp
    | false =>
      rw [firstI_eq p l (j + 1)]
      simp
      by_cases q : ∃ x ∈ l, p x = true
      · rw [if_pos q, if_pos q]; omega
      · rw [if_neg q, if_neg q]
theorem idxF_loop (B : Bt h d ids D n 0) (hDl : D.length = n) (hD : ∀ s t, s < n → t < n → mth D s t = !al s t) {s S : Nat} (hs : s < n) {st : List Nat} (hS : h S = some (.cells (st.map encS))) (hst : ∀ x ∈ st, x < n) (hl : st.length ≤ 1000) (nx : Nat) : ∀ (c j : Nat), j + c = st.length →
    slices_IndexFunc_int.L0 (.sl S 1 0 st.length st.length) (.fn 82 [] [.sptr [.sl d 1 0 n n], .fptr [.int .i64 (s : Int)]]) (.int .i64 st.length) (.int .i64 j) ⟨h, nx⟩ [.code slices_IndexFunc_int.r7, .code .ret] = some (.int .i64 (firstI (al s) (st.drop j) j), ⟨h, nx⟩) := by
  intro c
  induction c with
  | zero =>
    intro j h1
    have e : j = st.length := by omega
    subst e
    rw [slices_IndexFunc_int.L0_eq]
    simp [firstI]
    done
  | succ c ih =>
    intro j h1
    have hj : j < st.length := by omega
    have hwj : IntKind.wrap .i64 ((j : Int) + 1) = (j : Int) + 1 := wrap_id (by omega) (by omega)
    have st' := ih (j + 1) (by omega)
    simp only [Int.natCast_add, Int.cast_ofNat_Int] at st'
    have hd := List.drop_eq_getElem_cons hj
    have hx := hst st[j] (List.getElem_mem _)
    have hc := c82_spec B hDl hD hs hx nx
    rw [hd, firstI]
    rw [slices_IndexFunc_int.L0_eq]
    have hlen : (st.map encS).length == st.length := by simp
    cases q : al s st[j] with
    | true =>
      rw [q] at hc
      simp [hj, hS, encS, hc]
      done
    | false =>
      rw [q] at hc
      simp [hj, hS, encS, hc, hwj, st']
      done
theorem idxF_spec (B : Bt h d ids D n 0) (hDl : D.length = n) (hD : ∀ s t, s < n → t < n → mth D s t = !al s t) {s S : Nat} (hs : s < n) {st : List Nat} (hS : h S = some (.cells (st.map encS))) (hst : ∀ x ∈ st, x < n) (hl : st.length ≤ 1000) (nx : Nat) :
    denC prog ann 81 [.sl S 1 0 st.length st.length, .fn 82 [] [.sptr [.sl d 1 0 n n], .fptr [.int .i64 (s : Int)]]] ⟨h, nx⟩ = some (.int .i64 (if st.any (al s) = true then ((idxA al st s : Nat) : Int) else -1), ⟨h, nx⟩) := by
  have lp := idxF_loop B hDl hD hs hS hst hl nx st.length 0 (by omega)
  rw [firstI_eq, List.drop_zero] at lp
  simp only [Int.ofNat_zero, Int.cast_ofNat_Int, Nat.zero_add] at lp
  rw [show (if st.any (al s) = true then ((st.findIdx (al s) : Nat) : Int) else -1) = if st.any (al s) = true then ((idxA al st s : Nat) : Int) else -1 from rfl] at lp
  generalize (if st.any (al s) = true then ((idxA al st s : Nat) : Int) else -1) = z at lp ⊢
  have lp : slices_IndexFunc_int.L0 (.sl S 1 0 st.length st.length) (.fn 82 [] [.sptr [.sl d 1 0 n n], .fptr [.int .i64 (s : Int)]]) (.int .i64 st.length) (.int .i64 0) ⟨h, nx⟩ [.code slices_IndexFunc_int.r7, .code .ret] = some (.int .i64 z, ⟨h, nx⟩) := lp
  rw [slices_IndexFunc_int.call_eq]
  simp
  exact lp
structure Sx (h : Nat → Option AObj) (b S : Nat) (st : List Nat) : Prop where
  hb : h b = some (.cells [.sl S 1 0 st.length st.length])
  hs : h S = some (.cells (st.map encS))
  ne : b ≠ S
theorem num_spec (B : Bt h d ids D n 0) (hDl : D.length = n) (hD : ∀ s t, s < n → t < n → mth D s t = !al s t) {s b S : Nat} (hr : al s s = true) (hs : s < n) {st : List Nat} (X : Sx h b S st) (hst : ∀ x ∈ st, x < n) (hl : st.length ≤ 900) (nx : Nat) :
    ∃ h', denC prog ann 80 [.int .i64 (s : Int), .ptr b 0 1, .sptr [.sl d 1 0 n n]] ⟨h, nx⟩ = some (.int .i64 (idxA al (numS al s st) s : Nat), ⟨h', nx⟩) ∧ Sx h' b S (numS al s st) ∧ ∀ y, y ≠ b → y ≠ S → h' y = h y := by
  have hi := idxF_spec B hDl hD hs X.hs hst (by omega) nx
  rw [brand_smallest_1.call_eq]
  by_cases c : st.any (al s) = true
  · rw [if_pos c] at hi
    refine ⟨h, ?_, by rw [numS, if_pos c]; exact X, fun _ _ _ => rfl⟩
    rw [numS, if_pos c]
    simp [X.hb, hi]
    done
  · rw [if_neg c] at hi
    have e : numS al s st = st ++ [s] := by rw [numS, if_neg c]
    refine ⟨upd (upd h S (some (.cells ((st ++ [s]).map encS)))) b (some (.cells [.sl S 1 0 (st ++ [s]).length (st ++ [s]).length])), ?_, ?_, fun y h1 h2 => by rw [updNe h1, updNe h2]⟩
    · have hx : idxA al (st ++ [s]) s = st.length := by
        have hn : ¬ List.findIdx (al s) st < st.length := by
          rw [List.findIdx_lt_length]
          simpa using c
        rw [idxA, List.findIdx_append, if_neg hn]
        simp [hr]
      have hb2 : (b == S) = false := beq_eq_false_iff_ne.2 X.ne
      rw [e, hx]
      simp [X.hb, hi, X.hs, show st.length ≤ 4611686018427387903 by omega, show (st.length + 1) * 8 ≤ 70368744177664 by omega, hb2, encS]
      done
    · rw [e]
      exact ⟨by simp, by rw [updNe X.ne.symm]; simp, X.ne⟩
end
end Go.Proofs.Ythnpflkpjimkfaa

/-
  THE SMALLEST FORM: the program writes its rows. Conditions: none.
-/
namespace Go.Proofs.Ythnpflkpjimkfaa
open Go.AM
open Go.Proofs.Try (prog)
set_option linter.all false
set_option maxRecDepth 100000
set_option maxHeartbeats 8000000
def rowV (al : Nat → Nat → Bool) (rows : List (List Int)) (st : List Nat) (q c : Nat) : List AV := (List.range c).map fun a => .int .i64 (idxA al st (nx rows q a) : Nat)
theorem numS_nd {al : Nat → Nat → Bool} {s : Nat} {st : List Nat} (hr : al s s = true) (h : st.Nodup) : (numS al s st).Nodup := by
  rw [numS]
  split
  · exact h
  · rename_i c
    rw [List.nodup_append]
    refine ⟨h, by simp, ?_⟩
    intro a ha b hb
    simp at hb
    subst hb
    intro e
    subst e
    exact c (List.any_eq_true.2 ⟨a, ha, hr⟩)
theorem numS_all {al : Nat → Nat → Bool} {s n : Nat} {st : List Nat} (hs : s < n) (h : ∀ x ∈ st, x < n) : ∀ x ∈ numS al s st, x < n := by
  rw [numS]
  split
  · exact h
  · intro x hx
    rcases List.mem_append.1 hx with hx | hx
    · exact h x hx
    · simp at hx; omega
theorem numS_any {al : Nat → Nat → Bool} {s : Nat} {st : List Nat} (hr : al s s = true) : (numS al s st).any (al s) = true := by
  rw [numS]
  split
  · assumption
  · simp [hr]
theorem addsN_succ (al : Nat → Nat → Bool) (nxt : Nat → Nat → Nat) (q c a : Nat) (P : List Nat) : addsN al nxt q (c + 1) a P = addsN al nxt q c (a + 1) (numS al (nxt q a) P) := by rw [addsN, List.range'_succ, List.foldl_cons, addsN]
theorem rowV_pre {al : Nat → Nat → Bool} {rows : List (List Int)} {st : List Nat} {q c : Nat} (h : ∀ a, a < c → st.any (al (nx rows q a)) = true) (l : List Nat) : rowV al rows (st ++ l) q c = rowV al rows st q c := by
  simp only [rowV]
  refine List.map_congr_left fun a ha => ?_
  rw [idxA_app (h a (by simpa using ha))]
noncomputable def K12 : List Item := [.code brand_smallest.r43, .code .ret]
noncomputable def K14 : List Item := .code brand_smallest.r42 :: .inBlock 13 :: .code brand_smallest.r35 :: .inLoop brand_smallest.l12 :: .inBlock 12 :: K12
theorem sm_r {nv gv : AV} {ps : List AV} {rows : List (List Int)} {good : List Bool} {k : Nat} (hn : IsRows nv ps rows) (v : VB rows good k) {al : Nat → Nat → Bool} {D : MB} (hDl : D.length = rows.length) (hD : ∀ s t, s < rows.length → t < rows.length → mth D s t = !al s t) (hr : ∀ s, s < rows.length → al s s = true)
    {x2 x11 x14 : AV} {d : Nat} {ids : List Nat} {b S q lo : Nat} (hq : q < rows.length) (hdlo : d < lo) (hidlo : ∀ y ∈ ids, y < lo) (hb : b < lo) (hS : S < lo) (hbd : b ≠ d ∧ b ∉ ids) (hSd : S ≠ d ∧ S ∉ ids) {r : Res} :
    ∀ (c a : Nat) (h : Nat → Option AObj) (nx0 : Nat) (st : List Nat) (w : AV), a + c = k → Bt h d ids D rows.length 0 → Sx h b S st → st.Nodup → (∀ x ∈ st, x < rows.length) → (∀ a', a' < a → st.any (al (nx rows q a')) = true) → Nl h w (rowV al rows st q a) lo nx0 → lo ≤ nx0 → (0 < a → w ≠ .nils) →
    (∀ h' nx' w', Bt h' d ids D rows.length 0 → Sx h' b S (addsN al (nx rows) q c a st) → (addsN al (nx rows) q c a st).Nodup → (∀ x ∈ addsN al (nx rows) q c a st, x < rows.length) → (∀ a', a' < k → (addsN al (nx rows) q c a st).any (al (nx rows q a')) = true) → Nl h' w' (rowV al rows (addsN al (nx rows) q c a st) q k) lo nx' → nx0 ≤ nx' → w' ≠ .nils → (∀ y, y < lo → y ≠ b → y ≠ S → h' y = h y) →
      brand_smallest.L14 (.fptr [nv, gv]) x2 x11 (.ptr b 0 1) (.fn 80 [] [.ptr b 0 1, .sptr [.sl d 1 0 rows.length rows.length]]) x14 w' (pth ps q) (.int .i64 k) (.int .i64 k) ⟨h', nx'⟩ K14 = some r) →
    brand_smallest.L14 (.fptr [nv, gv]) x2 x11 (.ptr b 0 1) (.fn 80 [] [.ptr b 0 1, .sptr [.sl d 1 0 rows.length rows.length]]) x14 w (pth ps q) (.int .i64 k) (.int .i64 a) ⟨h, nx0⟩ K14 = some r := by
  intro c
  have n6 := v.n6
  have k3 := v.k3
  induction c with
  | zero =>
    intro a h nx0 st w h1 B X hnd hst hany hw hlo hwn hk
    have e : a = k := by omega
    subst e
    exact hk h nx0 w B X hnd hst hany hw (Nat.le_refl _) (hwn (by have := v.k1; omega)) (fun _ _ _ _ => rfl)
  | succ c ih =>
    intro a h nx0 st w h1 B X hnd hst hany hw hlo hwn hk
    have ha : a < k := by omega
    have hwa : IntKind.wrap .i64 ((a : Int) + 1) = (a : Int) + 1 := wrap_id (by omega) (by omega)
    obtain ⟨c1, c2⟩ := nx_lt v hq ha
    have b1 := v.rl q hq
    have iw1 := hn.row q hq
    have d1 := iw1.idx (i := a) (by omega) .i64
    have e1 := ints_head (l := cth rows q) (i := a) (by omega)
    rw [c2] at e1
    have f6 := few6 n6 hnd hst
    obtain ⟨h2, q1, q2, q3⟩ := num_spec B hDl hD (hr _ c1) c1 X hst (by omega) nx0
    have hnd' := numS_nd (hr _ c1) hnd
    have hst' := numS_all (al := al) c1 hst
    obtain ⟨l, hl⟩ := numS_pre (al := al) (nx rows q a) st
    have B2 : Bt h2 d ids D rows.length 0 := B.fr (q3 d hbd.1.symm hSd.1.symm) (fun y hy => q3 y (fun e => hbd.2 (e ▸ hy)) (fun e => hSd.2 (e ▸ hy)))
    have hw2 : Nl h2 w (rowV al rows (numS al (nx rows q a) st) q a) lo nx0 := by
      rw [hl, rowV_pre hany]
      exact hw.fr (fun y y1 y2 _ => q3 y (by omega) (by omega)) (Nat.le_refl _)
    have hlen : (rowV al rows (numS al (nx rows q a) st) q a).length = a := by simp [rowV]
    obtain ⟨w', h3, nx', g1, g2, g3, g4, g5, g6, g7⟩ := hw2.app (by' := 8) (Nat.le_refl _) hlo (by rw [hlen]; simp; omega) (.int .i64 (idxA al (numS al (nx rows q a) st) (nx rows q a) : Nat))
    have erow : rowV al rows (numS al (nx rows q a) st) q a ++ [.int .i64 (idxA al (numS al (nx rows q a) st) (nx rows q a) : Nat)] = rowV al rows (numS al (nx rows q a) st) q (a + 1) := by simp [rowV, List.range_succ]
    rw [erow] at g2
    have g6' : ∀ y, y < lo → h3 y = h2 y := fun y hy => g6 y (fun e => by
      rcases g5 y e with e | e
      · have := hw2.oid e; omega
      · omega)
    rw [addsN_succ] at hk
    have st2 := ih (a + 1) h3 nx' (numS al (nx rows q a) st) w' (by omega) (B2.fr (g6 d (fun e => by
        rcases g5 d e with e | e
        · have := hw2.oid e; have := hdlo; omega
        · have := hdlo; omega)) (fun y hy => g6' y (hidlo y hy))) ⟨by rw [g6' b hb]; exact q2.hb, by rw [g6' S hS]; exact q2.hs, q2.ne⟩ hnd' hst' (fun a' ha' => by
        by_cases e : a' = a
        · subst e; exact numS_any (hr _ c1)
        · rw [hl]; exact any_app (hany a' (by omega))) g2 (by omega) (fun _ => g7) (fun h' nx'' w'' f1 f2 f3 f4 f5 f6 f7 f8 f9 => hk h' nx'' w'' f1 f2 f3 f4 f5 f6 (by omega) f8 (fun y y1 y2 y3 => by rw [f9 y y1 y2 y3, g6' y y1, q3 y y2 y3]))
    simp only [Int.natCast_add, Int.cast_ofNat_Int] at st2
    rw [brand_smallest.L14_eq]
    simp [ha, d1, e1, q1, hw2.one, g1, hwa, st2]
    done
end Go.Proofs.Ythnpflkpjimkfaa

/-
  THE SMALLEST FORM: the program writes it. Conditions: none.
-/
namespace Go.Proofs.Ythnpflkpjimkfaa
open Go.AM
open Go.Proofs.Try (prog)
set_option linter.all false
set_option maxRecDepth 100000
set_option maxHeartbeats 8000000
def rowF (al : Nat → Nat → Bool) (rows : List (List Int)) (k : Nat) (st : List Nat) (q : Nat) : AV := .fsl false k (rowV al rows st q k)
def outR (al : Nat → Nat → Bool) (rows : List (List Int)) (k : Nat) (st : List Nat) (kk : Nat) : List AV := (st.take kk).map (rowF al rows k st)
def outG (good : List Bool) (st : List Nat) (kk : Nat) : List AV := (st.take kk).map fun q => .bool (bnth good q)
structure Ox (h : Nat → Option AObj) (o z0 : Nat) (a g : AV) (R G : List AV) (lo hi : Nat) : Prop where
  o : h o = some (.cells [a, g])
  z : h z0 = some (.cells [.nils, .nils])
  na : Nl h a R lo hi
  ng : Nl h g G lo hi
  dj : ∀ y, objId a = some y → objId g ≠ some y
def resV (al : Nat → Nat → Bool) (rows : List (List Int)) (good : List Bool) (k : Nat) (st : List Nat) : AV := .agg [.fsl false st.length (st.map (rowF al rows k st)), .fsl false st.length (st.map fun q => .bool (bnth good q))]
def ap (x y : Option Nat) : Bool := match x, y with
  | some a, some c => !(a == c)
  | _, _ => true
theorem ap_eq (s : St) (p q : Nat) : apart2 s p q = ap (objId (s.get p)) (objId (s.get q)) := by
  unfold apart2 ap
  cases objId (s.get p) <;> cases objId (s.get q) <;> rfl
theorem ap_lt {x : Option Nat} {z lo : Nat} (h : ∀ y, x = some y → lo ≤ y) (hz : z < lo) : ap x (some z) = true := by
  cases x with
  | none => rfl
  | some y =>
    have : (y == z) = false := beq_eq_false_iff_ne.2 (by have := h y rfl; omega)
    simp [ap, this]
theorem frz_142_146 (s : St) : frz1 s 3142146 = bif ap (objId (s.get 142)) (objId (s.get 146)) then some s else none := by rw [← ap_eq]; rfl
theorem frz_144 (s : St) : frz1 s 2000144 = bif nsl (s.get 144) then some s else none := rfl
theorem frz_142_12 (s : St) : frz1 s 3142012 = bif ap (objId (s.get 142)) (objId (s.get 12)) then some s else none := by rw [← ap_eq]; rfl
theorem frz_142_152 (s : St) : frz1 s 3142152 = bif ap (objId (s.get 142)) (objId (s.get 152)) then some s else none := by rw [← ap_eq]; rfl
@[simp] theorem objId_ptr (id off top : Nat) : objId (.ptr id off top) = some id := rfl
@[simp] theorem objId_sl (id es off n top : Nat) : objId (.sl id es off n top) = some id := rfl
theorem rowV_closed (al : Nat → Nat → Bool) (rows : List (List Int)) (st : List Nat) (q c : Nat) : closedL (rowV al rows st q c) = true := by
  rw [rowV]
  generalize List.range c = l
  induction l with
  | nil => rfl
  | cons a l ih => simp [closedL, AV.closed, ih]
theorem sm_o {nv gv : AV} {ps : List AV} {rows : List (List Int)} {good : List Bool} {k : Nat} (hn : IsRows nv ps rows) (hg : IsB gv good) (v : VB rows good k) {al : Nat → Nat → Bool} {D : MB} (hDl : D.length = rows.length) (hD : ∀ s t, s < rows.length → t < rows.length → mth D s t = !al s t) (hr : ∀ s, s < rows.length → al s s = true)
    {d o z0 : Nat} {ids : List Nat} {b S lo : Nat} (hdlo : d < lo) (hidlo : ∀ y ∈ ids, y < lo) (hb : b < lo) (hS : S < lo) (ho : o < lo) (hz : z0 < lo) (hbd : b ≠ d ∧ b ∉ ids) (hSd : S ≠ d ∧ S ∉ ids) (hod : o ≠ d ∧ o ∉ ids) (hzd : z0 ≠ d ∧ z0 ∉ ids) (hob : o ≠ b ∧ o ≠ S) (hzb : z0 ≠ b ∧ z0 ≠ S) (hoz : o ≠ z0) :
    ∀ (f kk : Nat) (h : Nat → Option AObj) (nx0 : Nat) (st : List Nat) (a g : AV), Bt h d ids D rows.length 0 → Sx h b S st → st.Nodup → (∀ x ∈ st, x < rows.length) → kk ≤ st.length → rows.length < f + kk → (∀ s ∈ st.take kk, ∀ a, a < k → st.any (al (nx rows s a)) = true) → lo ≤ nx0 → Ox h o z0 a g (outR al rows k st kk) (outG good st kk) lo nx0 → 0 < st.length →
    brand_smallest.L12 (.fptr [nv, gv]) (.ptr z0 0 2) (.ptr o 0 2) (.ptr b 0 1) (.fn 80 [] [.ptr b 0 1, .sptr [.sl d 1 0 rows.length rows.length]]) (.int .i64 kk) ⟨h, nx0⟩ K12 = some (resV al rows good k (bldN al (nx rows) k f kk st), Mem.empty) := by
  intro f
  have n6 := v.n6
  have k3 := v.k3
  induction f with
  | zero =>
    intro kk h nx0 st a g B X hnd hst hkk hf hcl hlo O hpos
    have := nodup_sub hnd (L := List.range rows.length) fun x hx => List.mem_range.2 (hst x hx)
    simp at this
    omega
  | succ f ih =>
    intro kk h nx0 st a g B X hnd hst hkk hf hcl hlo O hpos
    have f6 := few6 n6 hnd hst
    by_cases c : kk < st.length
    · have hx := List.getElem?_eq_getElem c
      generalize st[kk] = q at hx
      have hq : q < rows.length := hst q (List.mem_of_getElem? hx)
      rw [bldN, hx]
      simp only []
      have hl2 : ∀ n' : Nat, loadA false 1 ⟨h, n'⟩ (.ptr S kk st.length) = some (.int .i64 (q : Int)) := fun n' => by simp [X.hs, hx, encS]
      have iw1 := hn.row q hq
      have b1 := v.rl q hq
      rw [brand_smallest.L12_eq]
      simp [X.hb, c, hl2, hn.idx hq, hn.head hq, iw1.len, b1]
      have st2 := sm_r (gv := gv) (x2 := .ptr z0 0 2) (x11 := .ptr o 0 2) (x14 := .int .i64 kk) hn v hDl hD hr (d := d) (ids := ids) (b := b) (S := S) (q := q) (lo := nx0 + 10) hq (by omega) (fun y hy => by have := hidlo y hy; omega) (by omega) (by omega) hbd hSd (r := (resV al rows good k (bldN al (nx rows) k f (kk + 1) (addsN al (nx rows) q k 0 st)), Mem.empty)) k 0 h (nx0 + 10) st .nils (by omega) B X hnd hst (by omega) (.inl ⟨rfl, rfl⟩) (by omega) (by omega) (fun h' nx' w' B' X' hnd' hst' hany' hw' hnx' hwn' hfr => by
        obtain ⟨R, rfl, w1, w2, w3⟩ := hw'.sl hwn'
        obtain ⟨l, hl⟩ := addsN_pre (al := al) (nxt := nx rows) q k 0 st
        generalize est : addsN al (nx rows) q k 0 st = st' at *
        have hkk' : kk < st'.length := by rw [hl]; simp; omega
        have hx' : st'[kk]? = some q := by rw [hl, List.getElem?_append_left c]; exact hx
        have htk : st'.take kk = st.take kk := by rw [hl, List.take_append_of_le_length (by omega)]
        have htk1 : st'.take (kk + 1) = st.take kk ++ [q] := by rw [List.take_add_one, hx', htk]; rfl
        have f6' := few6 n6 hnd' hst'
        have eR : outR al rows k st kk ++ [rowF al rows k st' q] = outR al rows k st' (kk + 1) := by
          rw [outR, outR, htk1, List.map_append]
          congr 1
          refine List.map_congr_left fun s hs => ?_
          rw [rowF, rowF, hl, rowV_pre (hcl s hs)]
        have eG : outG good st kk ++ [.bool (bnth good q)] = outG good st' (kk + 1) := by
          rw [outG, outG, htk1, List.map_append]; rfl
        have oa := fun y e => (O.na.oid (y := y) e)
        have og := fun y e => (O.ng.oid (y := y) e)
        have rl : (rowV al rows st' q k).length = k := by simp [rowV]
        have na1 : Nl (upd h' R none) a (outR al rows k st kk) lo nx0 := O.na.fr (fun y y1 y2 _ => by rw [updNe (by omega), hfr y (by omega) (by omega) (by omega)]) (Nat.le_refl _)
        have lR : (outR al rows k st kk).length ≤ 6 := by simp [outR]; omega
        have lG : (outG good st kk).length ≤ 6 := by simp [outG]; omega
        obtain ⟨v1, h2, n2, g1, g2, g3, g4, g5, g6, g7⟩ := na1.app (nx := nx' + 4) (by' := 24) (by omega) (by omega) (by simp; omega) (rowF al rows k st' q)
        have hv1 : ∀ y, objId v1 = some y → lo ≤ y ∧ (y < nx0 ∨ y = nx' + 4) := fun y e => by
          rcases g5 y e with q | q
          · have := oa y q; omega
          · omega
        have ng1 : Nl h2 g (outG good st kk) lo nx0 := O.ng.fr (fun y y1 y2 ye => by
          rw [g6 y (fun e => by
            rcases g5 y e with q | q
            · exact O.dj y q ye
            · omega), updNe (by omega), hfr y (by omega) (by omega) (by omega)]) (Nat.le_refl _)
        obtain ⟨v2, h3, n3, u1, u2, u3, u4, u5, u6, u7⟩ := ng1.app (nx := nx' + 16) (by' := 1) (by omega) (by omega) (by simp; omega) (.bool (bnth good q))
        have hv2 : ∀ y, objId v2 = some y → lo ≤ y ∧ (objId g = some y ∨ y = nx' + 16) := fun y e => by
          rcases u5 y e with q | q
          · have := og y q; exact ⟨this.1, .inl q⟩
          · exact ⟨by omega, .inr q⟩
        have low : ∀ y, y < lo → h3 y = h' y := fun y hy => by
          rw [u6 y (fun e => by have := hv2 y e; omega), g6 y (fun e => by have := hv1 y e; omega), updNe (by omega)]
        have lo2 : ∀ y, y < lo → h2 y = h' y := fun y hy => by
          rw [g6 y (fun e => by have := hv1 y e; omega), updNe (by omega)]
        have ho' : h' o = some (.cells [a, g]) := by rw [hfr o (by omega) hob.1 hob.2]; exact O.o
        have ho1 : (upd h' R none) o = some (.cells [a, g]) := by rw [updNe (by omega)]; exact ho'
        have ho2 : h2 o = some (.cells [a, g]) := by rw [lo2 o ho]; exact ho'
        have ho3 : h3 o = some (.cells [a, g]) := by rw [low o ho]; exact ho'
        have hb2 : h2 b = some (.cells [.sl S 1 0 st'.length st'.length]) := by rw [lo2 b hb]; exact X'.hb
        have hS2 : h2 S = some (.cells (st'.map encS)) := by rw [lo2 S hS]; exact X'.hs
        have a1 := ap_lt (z := o) (fun y e => (oa y e).1) ho
        have a2 := ap_lt (z := b) (fun y e => (oa y e).1) hb
        have a3 := ap_lt (z := S) (fun y e => (oa y e).1) hS
        have bq := bls_head (bs := good) (i := q) (by rw [v.gl]; exact hq)
        have hwk : IntKind.wrap .i64 ((kk : Int) + 1) = (kk : Int) + 1 := wrap_id (by omega) (by omega)
        have fin4 : ∀ y, y < lo → y ≠ o → (upd h3 o (some (.cells [v1, v2]))) y = h' y := fun y y1 y2 => by rw [updNe y2, low y y1]
        have st3 := ih (kk + 1) (upd h3 o (some (.cells [v1, v2]))) (nx' + 21) st' v1 v2
          (B'.fr (fin4 d hdlo hod.1.symm) (fun y hy => fin4 y (hidlo y hy) (fun e => hod.2 (e ▸ hy))))
          ⟨by rw [fin4 b hb hob.1.symm]; exact X'.hb, by rw [fin4 S hS hob.2.symm]; exact X'.hs, X'.ne⟩ hnd' hst' (by omega) (by omega)
          (by
            rw [htk1]
            intro s hs a ha
            rcases List.mem_append.1 hs with hs | hs
            · rw [hl]; exact any_app (hcl s hs a ha)
            · simp at hs; subst hs; exact hany' a ha)
          (by omega)
          ⟨by simp, by rw [fin4 z0 hz hoz.symm, hfr z0 (by omega) hzb.1 hzb.2]; exact O.z,
            by
              rw [← eR]
              exact g2.fr (fun y y1 y2 ye => by
                rw [updNe (by omega), u6 y (fun e => by
                  rcases (hv2 y e).2 with q | q
                  · rcases g5 y ye with w | w
                    · exact O.dj y w q
                    · have := og y q; omega
                  · have := (hv1 y ye).2; omega)]) (by omega),
            by
              rw [← eG]
              exact u2.fr (fun y y1 y2 ye => by rw [updNe (by omega)]) (by omega),
            fun y e1 e2 => by
              rcases (hv2 y e2).2 with q | q
              · rcases g5 y e1 with w | w
                · exact O.dj y w q
                · have := og y q; omega
              · have := (hv1 y e1).2; omega⟩ (by omega)
        simp only [Int.natCast_add, Int.cast_ofNat_Int] at st3
        have hoR : (o == R) = false := beq_eq_false_iff_ne.2 (by omega)
        have rtk : (rowV al rows st' q k).take k = rowV al rows st' q k := List.take_of_length_le (by omega)
        have hxe := (List.getElem?_eq_some_iff.1 hx').2
        have rfo : (rowF al rows k st' q).one = true := rfl
        simp only [rowF] at g1 rfo
        rw [brand_smallest.L14_eq]
        simp [K14, w1, rowV_closed, rl, rtk, hoR, ho', ho1, ho2, ho3, g1, O.na.one, O.ng.one, hb2, hS2, hkk', hxe, u1, (show v1.one = true from g2.one), (show v2.one = true from u2.one), frz_142_146, frz_144, frz_142_12, frz_142_152, nsl, a1, a2, a3, hwk, st3, encS, hg.idx (i := q) (by rw [v.gl]; exact hq), bq, frzL]
        done)
      simp only [Int.ofNat_zero, Int.cast_ofNat_Int, K14] at st2
      exact st2
    · have ekk : kk = st.length := by omega
      subst ekk
      have hx : st[st.length]? = none := List.getElem?_eq_none (by omega)
      rw [bldN, hx]
      simp only []
      rw [brand_smallest.L12_eq]
      simp [X.hb, O.o, O.z, O.na.one, O.ng.one, K12]
      have e1 : st.take st.length = st := List.take_length
      have na : Nl (upd h z0 (some (AObj.cells [a, g]))) a (outR al rows k st st.length) lo nx0 := O.na.fr (fun y y1 _ _ => updNe (by omega)) (Nat.le_refl _)
      have ng : Nl (upd h z0 (some (AObj.cells [a, g]))) g (outG good st st.length) lo nx0 := O.ng.fr (fun y y1 _ _ => updNe (by omega)) (Nat.le_refl _)
      have hne : st ≠ [] := by intro e; rw [e] at hpos; simp at hpos
      have da := na.deep 4 (fun x hx => by
        simp only [outR, List.mem_map] at hx
        obtain ⟨q, _, rfl⟩ := hx
        simp [AM.deep, rowF, rowV_closed]) (na.nn (by simp [outR, hne]))
      have dg := ng.deep 4 (fun x hx => by
        simp only [outG, List.mem_map] at hx
        obtain ⟨q, _, rfl⟩ := hx
        simp [AM.deep]) (ng.nn (by simp [outG, hne]))
      simp [da, dg, resV, outR, outG]
      done
end Go.Proofs.Ythnpflkpjimkfaa

/-
  THE SMALLEST FORM: what the program returns. Conditions: none.
-/
namespace Go.Proofs.Ythnpflkpjimkfaa
open Go.AM
open Go.Proofs.Try (prog)
set_option linter.all false
set_option maxRecDepth 100000
set_option maxHeartbeats 8000000
theorem smallest_spec {nv gv : AV} {ps : List AV} {rows : List (List Int)} {good : List Bool} {k : Nat} (hn : IsRows nv ps rows) (hg : IsB gv good) (v : VB rows good k) (m : Mem) :
    denC prog ann 56 [.agg [nv, gv]] m = some (resV (alB rows good k) rows good k (bldN (alB rows good k) (nx rows) k (rows.length + 1) 0 [0]), m) := by
  have n1 := v.n1
  have n6 := v.n6
  have hgl := v.gl
  have nn : rows.length * rows.length ≤ 36 := Nat.mul_le_mul n6 n6
  obtain ⟨F1, F2⟩ := fixD_end v (f := 37) (by omega)
  rw [brand_smallest.call_eq _ _ (by simp [hn.closed, hg.closed])]
  have h0 : ∀ h : Nat → Option AObj, h 1 = some (.cells (List.replicate rows.length .nils)) → h 0 = some (.cells [.nils, .nils]) → brand_smallest.L0 (.fptr [nv, gv]) (.ptr 0 0 2) (.int .i64 rows.length) (.sptr [.sl 1 1 0 rows.length rows.length]) (.int .i64 rows.length) (.int .i64 0) ⟨h, 3⟩ K0 = some (resV (alB rows good k) rows good k (bldN (alB rows good k) (nx rows) k (rows.length + 1) 0 [0]), Mem.empty) := by
    intro h e1 e0
    have B0 : Bt h 1 [] ((List.range 0).map fun i => (List.range rows.length).map fun j => !(bnth good i == bnth good j)) rows.length rows.length := ⟨by simp [e1], rfl, by simp, by simp, by simp, by simp⟩
    refine sm_d (gv := gv) (nv := nv) (x2 := .ptr 0 0 2) hg hgl n6 rows.length 0 h 3 [] (by omega) B0 (by omega) (by simp) ?_
    intro h' nx' ids B hd hids hnx hfr
    refine sm_w (gv := gv) (x2 := .ptr 0 0 2) hn v 37 h' nx' _ D0_mkd (by omega) B ?_
    intro h2 nx2 B2 hnx2 hfr2
    have hz : h2 0 = some (.cells [.nils, .nils]) := by
      have h00 : h' 0 = some (.cells [.nils, .nils]) := by rw [hfr 0 (by omega) (by omega) (by simp), e0]
      rw [hfr2 0 (fun e => by
        obtain ⟨i, hi, e⟩ := List.getElem_of_mem e
        have h3 : i < (D0 good rows.length).length := by rw [← B.l]; exact hi
        have := B.r i h3
        have e' : rid ids i = 0 := by simp [rid, List.getD_eq_getElem?_getD, hi, e]
        rw [e', h00] at this
        have hl := B.rl i h3
        have q := Option.some.inj this
        injection q with q
        have : (bls (brw (D0 good rows.length) i))[0]? = some .nils := by rw [← q]; rfl
        simp [bls] at this), h00]
    have hids2 : ∀ y ∈ ids, y < nx2 := fun y hy => by have := hids y hy; omega
    have fr : ∀ y, y < nx2 → (upd (upd (upd h2 nx2 (some (AObj.cells [AV.nils, AV.nils]))) (nx2 + 1) (some (AObj.cells [AV.int IntKind.i64 0]))) (nx2 + 1 + 1) (some (AObj.cells [AV.sl (nx2 + 1) 1 0 1 1]))) y = h2 y := fun y hy => by rw [updNe (by omega), updNe (by omega), updNe (by omega)]
    have st := sm_o (gv := gv) hn hg v (al := alB rows good k) (D := fixD rows k rows.length 37 (D0 good rows.length)) F1.l F2 (fun s _ => alB_refl s) (d := 1) (o := nx2) (z0 := 0) (ids := ids) (b := nx2 + 1 + 1) (S := nx2 + 1) (lo := nx2 + 3) (by omega) (fun y hy => by have := hids2 y hy; omega) (by omega) (by omega) (by omega) (by omega) ⟨by omega, fun e => by have := hids2 _ e; omega⟩ ⟨by omega, fun e => by have := hids2 _ e; omega⟩ ⟨by omega, fun e => by have := hids2 _ e; omega⟩ ⟨by omega, fun e => by
        obtain ⟨i, hi, e⟩ := List.getElem_of_mem e
        have h3 : i < (fixD rows k rows.length 37 (D0 good rows.length)).length := by rw [← B2.l]; exact hi
        have := B2.r i h3
        have e' : rid ids i = 0 := by simp [rid, List.getD_eq_getElem?_getD, hi, e]
        rw [e', hz] at this
        have hl := B2.rl i h3
        have q := Option.some.inj this
        injection q with q
        have : (bls (brw (fixD rows k rows.length 37 (D0 good rows.length)) i))[0]? = some .nils := by rw [← q]; rfl
        simp [bls] at this⟩ (by omega) (by omega) (by omega) (rows.length + 1) 0 _ (nx2 + 1 + 1 + 1) [0] .nils .nils (B2.fr (fr 1 (by omega)) (fun y hy => fr y (hids2 y hy))) ⟨by simp, by rw [updNe (by omega)]; simp [encS], by omega⟩ (by simp) (by intro x hx; simp at hx; omega) (by simp) (by omega) (by simp) (by omega) ⟨by rw [updNe (by omega), updNe (by omega)]; simp, by rw [fr 0 (by omega)]; exact hz, .nil, .nil, by simp [objId]⟩ (by simp)
    simp only [Int.ofNat_zero, Int.cast_ofNat_Int, K12] at st
    rw [brand_smallest.L4_eq]
    simp [K4]
    exact st
  have h1 := h0 (upd (upd (upd (upd Mem.empty.h 0 (some (AObj.cells [AV.nils, AV.nils]))) 1 (some (AObj.cells (List.replicate rows.length AV.nils)))) 2 (some (AObj.cells [AV.sl 1 1 0 rows.length rows.length]))) 2 none) (by simp) (by simp)
  simp [K0, K4] at h1
  simp [hn.one, hg.one, hn.closed, hg.closed, hn.len, show rows.length ≤ 4611686018427387904 by omega, show rows.length * 24 ≤ 70368744177664 by omega]
  rw [h1]
  rfl
end Go.Proofs.Ythnpflkpjimkfaa
