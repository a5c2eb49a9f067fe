/-
  THE REFERENCE's CLOCKS IN MEMORY (4): the rounds, as growth. Conditions: none.
-/
import Derived.Test.YtdkmepjedjclkaaK04
import Derived.Test.YtdkmepjedjclkaaK01
import Derived.Test.YtdkmepjedjclkaaKAmG
import Derived.Test.YtdkmepjedjclkaaKAmH
set_option linter.all false
namespace Go.Proofs.Ytdkmepjedjclkaa
open Go.AM
open Go.Proofs.Try (prog)
set_option linter.all false
set_option maxRecDepth 100000
set_option maxHeartbeats 4000000
theorem updNe {h : Nat → Option AObj} {i j : Nat} {o : Option AObj} (e : j ≠ i) : upd h i o j = h j := by simp [upd, show (j == i) = false from beq_eq_false_iff_ne.2 e]
theorem flatC_row (R : List (List Int)) : flatC rowC R = R.map fun c => .fsl false c.length (ints c) := by
  induction R with
  | nil => rfl
  | cons a R ih => rw [flatC_cons, ih]; rfl
theorem flatC_row_set (R : List (List Int)) (i : Nat) (x : List Int) : (flatC rowC R).set i (.fsl false x.length (ints x)) = flatC rowC (R.set i x) := by
  rw [flatC_row, flatC_row, List.map_set]
theorem flatC_row_get {R : List (List Int)} {i : Nat} (hi : i < R.length) : (flatC rowC R)[i]? = some (.fsl false (cth R i).length (ints (cth R i))) := by
  rw [flatC_row, List.getElem?_map, cth_eq hi]; rfl
theorem flatC_row_len (R : List (List Int)) : (flatC rowC R).length = R.length := by rw [flatC_row]; simp
theorem rowsV_len (D : List Int) (rids : Nat → Nat) (k : Nat) : (rowsV D rids k).length = k := by simp [rowsV]
theorem rowsV_get (D : List Int) (rids : Nat → Nat) {k h : Nat} (hh : h < k) : (rowsV D rids k)[h]? = some (rowV D rids h) := by simp [rowsV, hh]
@[simp] theorem rowsV_getElem (D : List Int) (rids : Nat → Nat) {k h : Nat} (hh : h < (rowsV D rids k).length) : (rowsV D rids k)[h] = rowV D rids h := by simp [rowsV]
@[simp] theorem flatC_row_getElem {R : List (List Int)} {i : Nat} (hi : i < (flatC rowC R).length) : (flatC rowC R)[i] = .fsl false (cth R i).length (ints (cth R i)) := by
  have h := flatC_row_get (R := R) (i := i) (by rwa [flatC_row_len] at hi)
  rw [List.getElem?_eq_getElem hi] at h
  simpa using h
theorem kth_grow {C : List (List (List Int))} {h i : Nat} {c : List Int} (hh : h < C.length) (g : Nat) : kth (growK C h i c) g = if g = h then (kth C h).set i (zmax (cth (kth C h) i) c) else kth C g := by rw [growK, kth_set hh]
theorem growK_len {C : List (List (List Int))} {h i : Nat} {c : List Int} : (growK C h i c).length = C.length := by simp [growK]
theorem CAt.grow {m : Mem} {oid : Nat} {rids : Nat → Nat} {D : List Int} {C : List (List (List Int))} (k : CAt m oid rids D C) {h i n' : Nat} {c : List Int} (hh : h < C.length) (hn : m.nx ≤ n') :
    CAt ⟨upd m.h (rids h) (some (.cells ((flatC rowC (kth C h)).set i (.fsl false (zmax (cth (kth C h) i) c).length (ints (zmax (cth (kth C h) i) c)))))), n'⟩ oid rids D (growK C h i c) := by
  refine ⟨?_, fun g hg => ?_, Nat.lt_of_lt_of_le k.ol hn, fun g hg => ?_, fun g hg => ?_, fun g g' hg hg' e => ?_⟩
  · rw [growK_len]
    show upd m.h (rids h) _ oid = _
    rw [updNe (k.ne h hh)]; exact k.o
  · rw [growK_len] at hg
    rw [kth_grow hh, flatC_row_set]
    show upd m.h (rids h) _ (rids g) = _
    by_cases e : g = h
    · subst e; simp
    · rw [updNe (fun x => e (k.inj g h hg hh x)), if_neg e]; exact k.r g hg
  · rw [growK_len] at hg; exact Nat.lt_of_lt_of_le (k.rl g hg) hn
  · rw [growK_len] at hg; exact k.ne g hg
  · rw [growK_len] at hg hg'; exact k.inj g g' hg hg' e
theorem CAt.more {m : Mem} {oid : Nat} {rids : Nat → Nat} {D : List Int} {C : List (List (List Int))} (k : CAt m oid rids D C) {m' : Mem} (hm : ∀ id, id < m.nx → m'.h id = m.h id) (hn : m.nx ≤ m'.nx) : CAt m' oid rids D C :=
  ⟨by rw [hm _ k.ol]; exact k.o, fun h hh => by rw [hm _ (k.rl h hh)]; exact k.r h hh, Nat.lt_of_lt_of_le k.ol hn, fun h hh => Nat.lt_of_lt_of_le (k.rl h hh) hn, k.ne, k.inj⟩
structure Part (D : List Int) (N : List Note) (C C' : List (List (List Int))) (S : Nat → Nat → Prop) : Prop where
  inv : RInv D N C'
  ge : Ge C C'
  own : ∀ (h i : Nat), h < D.length → S h (i + 1) → (i : Int) + 1 < nth D h → ∀ q, kn C h i q ≤ kn C' h (i + 1) q
  note : ∀ x ∈ N, S x.t.toNat (x.r.toNat - 1) → ∀ q, kn C x.f.toNat (x.s.toNat - 1) q ≤ kn C' x.t.toNat (x.r.toNat - 1) q
section
variable {D : List Int} {N : List Note} {A B C : List (List (List Int))} {S T : Nat → Nat → Prop}
theorem Part.refl (I : RInv D N C) (h : ∀ g i, S g i → False) : Part D N C C S := ⟨I, Ge.refl C, fun g i _ s => (h _ _ s).elim, fun x _ s => (h _ _ s).elim⟩
theorem Part.trans {U : Nat → Nat → Prop} (a : Part D N A B S) (b : Part D N B C T) (h : ∀ g i, U g i → S g i ∨ T g i) : Part D N A C U := by
  refine ⟨b.inv, a.ge.trans b.ge, fun g i hg u hi q => ?_, fun x hx u q => ?_⟩
  · rcases h _ _ u with s | t
    · exact Int.le_trans (a.own g i hg s hi q) (b.ge _ _ q)
    · exact Int.le_trans (a.ge _ _ q) (b.own g i hg t hi q)
  · rcases h _ _ u with s | t
    · exact Int.le_trans (a.note x hx s q) (b.ge _ _ q)
    · exact Int.le_trans (a.ge _ _ q) (b.note x hx t q)
theorem Part.round (a : Part D N A B S) (h : ∀ (g i : Nat), g < D.length → (i : Int) < nth D g → S g i) (P : Pre D N) : Round D N A B := by
  refine ⟨a.inv, a.ge, fun g i hg hi q => a.own g i hg (h g (i + 1) hg (by omega)) hi q, fun x hx q => ?_⟩
  obtain ⟨f0, f1, t0, t1, ne, s0, s1, r0, r1⟩ := P.notes x hx
  exact a.note x hx (h _ _ (by omega) (by omega)) q
end
theorem own_low {D : List Int} {N : List Note} {C : List (List (List Int))} (I : RInv D N C) {h d : Nat} (hh : h < D.length) (hd : (d : Int) < nth D h) (h0 : 0 < d) : ∀ V, Super D N V → ∀ g, nth (cth (kth C h) (d - 1)) g ≤ V h d g := by
  intro V hV g
  have hr := I.rows h hh
  have a := I.low V hV h (d - 1) (by omega) g
  have b := hV.own h (d - 1) g (by omega)
  rw [show d - 1 + 1 = d by omega] at b
  exact Int.le_trans a b
theorem note_low {D : List Int} {N : List Note} {C : List (List (List Int))} (P : Pre D N) (I : RInv D N C) {x : Note} (hx : x ∈ N) : ∀ V, Super D N V → ∀ g, nth (cth (kth C x.f.toNat) (x.s.toNat - 1)) g ≤ V x.t.toNat (x.r.toNat - 1) g := by
  intro V hV g
  obtain ⟨f0, f1, t0, t1, ne, s0, s1, r0, r1⟩ := P.notes x hx
  have hr := I.rows x.f.toNat (by omega)
  have a := I.low V hV x.f.toNat (x.s.toNat - 1) (by omega) g
  exact Int.le_trans a (hV.note x hx g)
end Go.Proofs.Ytdkmepjedjclkaa

/-
  THE REFERENCE's CLOCKS IN MEMORY (5): a deed takes in what it receives. Conditions: none.
-/
namespace Go.Proofs.Ytdkmepjedjclkaa
open Go.AM
open Go.Proofs.Try (prog)
set_option linter.all false
set_option maxRecDepth 100000
set_option maxHeartbeats 4000000
theorem cnotes_loop {vD vN : AV} {D : List Int} {N : List Note} (hN : IsSl noteC vN N) (P : Pre D N) {oid : Nat} {rids : Nat → Nat} {h d : Nat} (hh : h < D.length) (hd : (d : Int) < nth D h) (R : Int) (Kc : List Item) : ∀ (k i : Nat) (m : Mem) (C : List (List (List Int))), i + k = N.length → CAt m oid rids D C → RInv D N C →
    ∃ m' C', CAt m' oid rids D C' ∧ RInv D N C' ∧ Ge C C' ∧ (∀ x ∈ N.drop i, x.t.toNat = h → x.r.toNat - 1 = d → ∀ q, kn C x.f.toNat (x.s.toNat - 1) q ≤ kn C' h d q) ∧
      r09_Clocks.L10 (.fptr [vD, vN]) (.sl oid 1 0 D.length D.length) (.int .i64 R) (.int .i64 h) (.int .i64 d) (.int .i64 i) m (.inBlock 9 :: .code r09_Clocks.r21 :: .inLoop r09_Clocks.l8 :: .inBlock 8 :: Kc) =
        r09_Clocks.L8 (.fptr [vD, vN]) (.sl oid 1 0 D.length D.length) (.int .i64 R) (.int .i64 h) (.int .i64 ((d : Int) + 1)) m' Kc := by
  have hn4 := P.L.n4
  have h6 := P.L.hi h
  have hwd : IntKind.wrap .i64 ((d : Int) + 1) = (d : Int) + 1 := wrap_id (by omega) (by omega)
  intro k
  induction k with
  | zero =>
    intro i m C h1 c I
    have e : i = N.length := by omega
    subst e
    refine ⟨m, C, c, I, Ge.refl C, fun x hx => by simp at hx, ?_⟩
    rw [r09_Clocks.L10_eq]
    simp [hN.len, hwd]
    done
  | succ k ih =>
    intro i m C h1 c I
    have hi : i < N.length := by omega
    have h24 := P.L.N24
    have hw : IntKind.wrap .i64 ((i : Int) + 1) = (i : Int) + 1 := wrap_id (by omega) (by omega)
    have hmem := nt_mem hi
    have hlow := note_low P I hmem
    obtain ⟨f0, f1, t0, t1, ne, s0, s1, r0, r1⟩ := P.notes _ hmem
    have hdrop := drop_nt hi
    have hnN := hN.idx (noteC_len N) hi .i64
    have hld := load_note hi
    generalize nt N i = x at *
    by_cases q1 : x.t = h
    · by_cases q2 : x.r = (d : Int) + 1
      · have hC := I.len
        have hrows := I.rows h hh
        have hf : x.f.toNat < D.length := by omega
        have hrowsf := I.rows x.f.toNat hf
        have hdl : d < (kth C h).length := by omega
        have hsl : x.s.toNat - 1 < (kth C x.f.toNat).length := by omega
        have hlc : (cth (kth C h) d).length = D.length := I.wid h _ (cth_mem hdl)
        have hlf : (cth (kth C x.f.toNat) (x.s.toNat - 1)).length = D.length := I.wid _ _ (cth_mem hsl)
        have et : x.t.toNat = h := by omega
        have er : x.r.toNat - 1 = d := by omega
        rw [et, er] at hlow
        obtain ⟨I', g1, g2⟩ := I.grow hh hdl hlf hlow
        have c' := c.grow (h := h) (i := d) (n' := m.nx + 1 + 25) (c := cth (kth C x.f.toNat) (x.s.toNat - 1)) (by omega) (by omega)
        have cm := CAt.more (m' := ⟨upd m.h m.nx none, m.nx + 1⟩) c (fun id hid => by simp [show (id == m.nx) = false from beq_eq_false_iff_ne.2 (by omega)]) (by simp)
        have c2 := cm.grow (h := h) (i := d) (n' := m.nx + 1 + 25) (c := cth (kth C x.f.toNat) (x.s.toNat - 1)) (by omega) (by simp)
        obtain ⟨m', C', i1, i2, i3, i4, i5⟩ := ih (i + 1) _ _ (by omega) c2 I'
        refine ⟨m', C', i1, i2, g1.trans i3, fun y hy ht hr q => ?_, ?_⟩
        · rw [hdrop] at hy
          rcases List.mem_cons.1 hy with rfl | hy
          · exact Int.le_trans (g2 q) (i3 h d q)
          · exact Int.le_trans (g1 _ _ q) (i4 y hy ht hr q)
        · have ho := c.o
          rw [hC] at ho
          have hroh := c.r h (by omega)
          have hrof := c.r x.f.toNat (by omega)
          have hol := c.ol
          have hrl := c.rl h (by omega)
          have hrlf := c.rl x.f.toNat (by omega)
          have e1 : (oid == m.nx) = false := beq_eq_false_iff_ne.2 (by omega)
          have e2 : (rids h == m.nx) = false := beq_eq_false_iff_ne.2 (by omega)
          have e3 : (rids x.f.toNat == m.nx) = false := beq_eq_false_iff_ne.2 (by omega)
          have hj := maxR_spec (IsInts.fsl false (cth (kth C h) d)) (IsInts.fsl false (cth (kth C x.f.toNat) (x.s.toNat - 1))) (by omega) (by omega)
          rw [hlc, hlf] at hj
          have g1' := rowsV_get D rids hh
          have g2' := rowsV_get D rids hf
          have g3 := flatC_row_get hdl
          have g4 := flatC_row_get hsl
          have hD1 : (nth D h).toNat = (kth C h).length := by omega
          have hD2 : (nth D x.f.toNat).toNat = (kth C x.f.toNat).length := by omega
          simp only [Int.natCast_add, Int.cast_ofNat_Int] at i5
          rw [← i5, r09_Clocks.L10_eq]
          simp [hN.len, hi, hnN, hld]
          simp [noteC, q1, q2, hwd, hw, ho, e1, e2, e3, rowsV_len, g1', g2', rowV, hroh, hrof, flatC_row_len, g3, g4, hD1, hD2, hlc, hlf, hj, hh, f0, f1, hdl, hsl, show (x.s - 1).toNat = x.s.toNat - 1 by omega, show 0 ≤ x.s - 1 by omega, s0, show x.s - 1 < (kth C x.f.toNat).length by omega, wrap_id (show -9223372036854775808 ≤ x.s - 1 by omega) (show x.s - 1 < 9223372036854775808 by have := P.L.hi x.f.toNat; omega)]
          done
      · obtain ⟨m', C', i1, i2, i3, i4, i5⟩ := ih (i + 1) ⟨upd m.h m.nx none, m.nx + 1⟩ C (by omega) (c.more (fun id hid => by simp [show (id == m.nx) = false from beq_eq_false_iff_ne.2 (by omega)]) (by simp)) I
        refine ⟨m', C', i1, i2, i3, fun y hy ht hr q => ?_, ?_⟩
        · rw [hdrop] at hy
          rcases List.mem_cons.1 hy with rfl | hy
          · omega
          · exact i4 y hy ht hr q
        · simp only [Int.natCast_add, Int.cast_ofNat_Int] at i5
          rw [← i5, r09_Clocks.L10_eq]
          simp [hN.len, hi, hnN, hld]
          simp [noteC, q1, q2, hwd, hw]
          done
    · obtain ⟨m', C', i1, i2, i3, i4, i5⟩ := ih (i + 1) ⟨upd m.h m.nx none, m.nx + 1⟩ C (by omega) (c.more (fun id hid => by simp [show (id == m.nx) = false from beq_eq_false_iff_ne.2 (by omega)]) (by simp)) I
      refine ⟨m', C', i1, i2, i3, fun y hy ht hr q => ?_, ?_⟩
      · rw [hdrop] at hy
        rcases List.mem_cons.1 hy with rfl | hy
        · omega
        · exact i4 y hy ht hr q
      · simp only [Int.natCast_add, Int.cast_ofNat_Int] at i5
        rw [← i5, r09_Clocks.L10_eq]
        simp [hN.len, hi, hnN, hld]
        simp [noteC, q1, hwd, hw]
        done
end Go.Proofs.Ytdkmepjedjclkaa

/-
  THE REFERENCE's CLOCKS IN MEMORY (6): hands, rounds, and what is handed back. Conditions: none.
-/
namespace Go.Proofs.Ytdkmepjedjclkaa
open Go.AM
open Go.Proofs.Try (prog)
set_option linter.all false
set_option maxRecDepth 100000
set_option maxHeartbeats 4000000
theorem cdeeds_loop {vD vN : AV} {D : List Int} {N : List Note} (hN : IsSl noteC vN N) (P : Pre D N) {oid : Nat} {rids : Nat → Nat} {h : Nat} (hh : h < D.length) (R : Int) (Kc : List Item) : ∀ (k d : Nat) (m : Mem) (C : List (List (List Int))), (d : Int) + k = nth D h → CAt m oid rids D C → RInv D N C →
    ∃ m' C', CAt m' oid rids D C' ∧ Part D N C C' (fun g j => g = h ∧ d ≤ j ∧ (j : Int) < nth D h) ∧
      r09_Clocks.L8 (.fptr [vD, vN]) (.sl oid 1 0 D.length D.length) (.int .i64 R) (.int .i64 h) (.int .i64 d) m (.inBlock 7 :: .code r09_Clocks.r18 :: .inLoop r09_Clocks.l6 :: .inBlock 6 :: Kc) =
        r09_Clocks.L6 (.fptr [vD, vN]) (.sl oid 1 0 D.length D.length) (.int .i64 R) (.int .i64 ((h : Int) + 1)) m' Kc := by
  have hn4 := P.L.n4
  have h6 := P.L.hi h
  have hwh : IntKind.wrap .i64 ((h : Int) + 1) = (h : Int) + 1 := wrap_id (by omega) (by omega)
  intro k
  induction k with
  | zero =>
    intro d m C h1 c I
    have hC := I.len
    have hrows := I.rows h hh
    have ho := c.o
    rw [hC] at ho
    have g1' := rowsV_get D rids hh
    have hD1 : (nth D h).toNat = d := by omega
    refine ⟨m, C, c, Part.refl I (fun g i s => by omega), ?_⟩
    rw [r09_Clocks.L8_eq]
    simp [ho, rowsV_len, hh, g1', rowV, hD1, hwh]
    done
  | succ k ih =>
    intro d m C h1 c I
    have hC := I.len
    have hrows := I.rows h hh
    have hd : (d : Int) < nth D h := by omega
    have ho := c.o
    rw [hC] at ho
    have g1' := rowsV_get D rids hh
    have hdl : d < (kth C h).length := by omega
    have hD1 : (nth D h).toNat = (kth C h).length := by omega
    have hlc : (cth (kth C h) d).length = D.length := I.wid h _ (cth_mem hdl)
    have hwd : IntKind.wrap .i64 ((d : Int) - 1) = (d : Int) - 1 := wrap_id (by omega) (by omega)
    by_cases q : d = 0
    · obtain ⟨m1, C1, i1, i2, i3, i4, i5⟩ := cnotes_loop (vD := vD) hN P (rids := rids) hh hd R (.inBlock 7 :: .code r09_Clocks.r18 :: .inLoop r09_Clocks.l6 :: .inBlock 6 :: Kc) N.length 0 m C (by omega) c I
      obtain ⟨m2, C2, j1, j2, j3⟩ := ih (d + 1) m1 C1 (by omega) i1 i2
      refine ⟨m2, C2, j1, Part.trans (S := fun g j => g = h ∧ j = d) ⟨i2, i3, fun g i hg s hi q => by omega, fun x hx s q => ?_⟩ j2 (fun g i s => ?_), ?_⟩
      · have := i4 x (by simpa using hx) s.1 s.2 q
        rw [← s.1, ← s.2] at this; exact this
      · obtain ⟨rfl, s1, s2⟩ := s
        rcases Nat.eq_or_lt_of_le s1 with e | e
        · exact .inl ⟨rfl, e.symm⟩
        · exact .inr ⟨rfl, e, s2⟩
      · simp only [Int.natCast_add, Int.cast_ofNat_Int] at j3
        rw [← j3, ← i5, r09_Clocks.L8_eq]
        subst q
        simp [ho, rowsV_len, hh, g1', rowV, hD1, hdl, hwh]
        done
    · have hsl : d - 1 < (kth C h).length := by omega
      have hlf : (cth (kth C h) (d - 1)).length = D.length := I.wid _ _ (cth_mem hsl)
      obtain ⟨I1, g1, g2⟩ := I.grow hh hdl hlf (own_low I hh hd (by omega))
      have c1 := c.grow (h := h) (i := d) (n' := m.nx + 23) (c := cth (kth C h) (d - 1)) (by omega) (by omega)
      obtain ⟨m1, C1, i1, i2, i3, i4, i5⟩ := cnotes_loop (vD := vD) hN P (rids := rids) hh hd R (.inBlock 7 :: .code r09_Clocks.r18 :: .inLoop r09_Clocks.l6 :: .inBlock 6 :: Kc) N.length 0 _ _ (by omega) c1 I1
      obtain ⟨m2, C2, j1, j2, j3⟩ := ih (d + 1) m1 C1 (by omega) i1 i2
      refine ⟨m2, C2, j1, Part.trans (S := fun g j => g = h ∧ j = d) ⟨i2, g1.trans i3, fun g i hg s hi q' => ?_, fun x hx s q => ?_⟩ j2 (fun g i s => ?_), ?_⟩
      · obtain ⟨rfl, rfl⟩ := s
        have b := g2 q'
        have a := i3 g (i + 1) q'
        exact Int.le_trans b a
      · have := i4 x (by simpa using hx) s.1 s.2 q
        have a := g1 x.f.toNat (x.s.toNat - 1) q
        rw [← s.1, ← s.2] at this
        rw [← s.1, ← s.2] at a
        exact Int.le_trans a this
      · obtain ⟨rfl, s1, s2⟩ := s
        rcases Nat.eq_or_lt_of_le s1 with e | e
        · exact .inl ⟨rfl, e.symm⟩
        · exact .inr ⟨rfl, e, s2⟩
      · have hroh := c.r h (by omega)
        have hj := maxR_spec (IsInts.fsl false (cth (kth C h) d)) (IsInts.fsl false (cth (kth C h) (d - 1))) (by omega) (by omega)
        rw [hlc, hlf] at hj
        have g3 := flatC_row_get hdl
        have g4 := flatC_row_get hsl
        have e1 : ((d : Int) - 1).toNat = d - 1 := by omega
        simp only [Int.natCast_add, Int.cast_ofNat_Int] at j3
        rw [← j3, ← i5, r09_Clocks.L8_eq]
        simp [ho, rowsV_len, hh, g1', rowV, hD1, hdl, hwh, hwd, q, show 0 < d by omega, hroh, flatC_row_len, g3, g4, hlc, hlf, hj, e1, hsl, show (1 : Int) ≤ d by omega, show (d : Int) - 1 < (kth C h).length by omega]
        done
theorem chands_loop {vD vN : AV} {D : List Int} {N : List Note} (hN : IsSl noteC vN N) (P : Pre D N) {oid : Nat} {rids : Nat → Nat} {R : Int} (hR0 : 0 ≤ R) (hR : R < 100) (Kc : List Item) : ∀ (k h : Nat) (m : Mem) (C : List (List (List Int))), h + k = D.length → CAt m oid rids D C → RInv D N C →
    ∃ m' C', CAt m' oid rids D C' ∧ Part D N C C' (fun g j => h ≤ g ∧ g < D.length ∧ (j : Int) < nth D g) ∧
      r09_Clocks.L6 (.fptr [vD, vN]) (.sl oid 1 0 D.length D.length) (.int .i64 R) (.int .i64 h) m (.inBlock 5 :: .code r09_Clocks.r15 :: .inLoop r09_Clocks.l4 :: .inBlock 4 :: Kc) =
        r09_Clocks.L4 (.fptr [vD, vN]) (.sl oid 1 0 D.length D.length) (.int .i64 (R + 1)) m' Kc := by
  have hwR : IntKind.wrap .i64 (R + 1) = R + 1 := wrap_id (by omega) (by omega)
  intro k
  induction k with
  | zero =>
    intro h m C h1 c I
    refine ⟨m, C, c, Part.refl I (fun g i s => by omega), ?_⟩
    have e : h = D.length := by omega
    subst e
    rw [r09_Clocks.L6_eq]
    simp [hwR]
    done
  | succ k ih =>
    intro h m C h1 c I
    have hh : h < D.length := by omega
    have h0 := P.L.lo h
    obtain ⟨m1, C1, i1, i2, i3⟩ := cdeeds_loop (vD := vD) hN P (rids := rids) hh R (.inBlock 5 :: .code r09_Clocks.r15 :: .inLoop r09_Clocks.l4 :: .inBlock 4 :: Kc) (nth D h).toNat 0 m C (by omega) c I
    obtain ⟨m2, C2, j1, j2, j3⟩ := ih (h + 1) m1 C1 (by omega) i1 i2.inv
    refine ⟨m2, C2, j1, Part.trans i2 j2 (fun g i s => ?_), ?_⟩
    · obtain ⟨s0, s1, s2⟩ := s
      rcases Nat.eq_or_lt_of_le s0 with e | e
      · subst e; exact .inl ⟨rfl, by omega, s2⟩
      · exact .inr ⟨e, s1, s2⟩
    · simp only [Int.natCast_add, Int.cast_ofNat_Int] at j3
      simp only [Int.cast_ofNat_Int] at i3
      rw [← j3, ← i3, r09_Clocks.L6_eq]
      simp [hh]
      done
def clkC (R : List (List Int)) : List AV := [.fsl false R.length (flatC rowC R)]
def clkV (C : List (List (List Int))) : AV := .fsl false C.length (flatC clkC C)
theorem deep_rows {m : Mem} {oid : Nat} {rids : Nat → Nat} {D : List Int} {N : List Note} {C : List (List (List Int))} (c : CAt m oid rids D C) (I : RInv D N C) (d : Nat) : deep m.h (d + 4) (.sl oid 1 0 D.length D.length) = some (clkV C) := by
  have hC := I.len
  have ho := c.o
  rw [hC] at ho
  have key : ∀ k, k ≤ D.length → mapO (deep m.h (d + 3)) (rowsV D rids k) = some (flatC clkC (C.take k)) := by
    intro k
    induction k with
    | zero => intro _; simp [rowsV]
    | succ k ih =>
      intro hk
      have hroh := c.r k (by omega)
      have hrows := I.rows k (by omega)
      have hD1 : (nth D k).toNat = (kth C k).length := by omega
      have e1 : C.take (k + 1) = C.take k ++ [kth C k] := by
        rw [List.take_add_one, List.getElem?_eq_getElem (show k < C.length by omega)]
        simp [kth, List.getD, List.getElem?_eq_getElem (show k < C.length by omega)]
      have hdp : mapO (deep m.h (d + 2)) (flatC rowC (kth C k)) = some (flatC rowC (kth C k)) := flatC_deep _ _ (fun a => by simp [rowC]) _
      have htk : (flatC rowC (kth C k)).take (kth C k).length = flatC rowC (kth C k) := List.take_of_length_le (by rw [flatC_row_len]; exact Nat.le_refl _)
      rw [rowsV_succ, mapO_append, ih (by omega), e1, flatC_append, flatC_one]
      simp [rowV, hD1, hroh, flatC_row_len, hdp, htk, clkC]
  have := key D.length (Nat.le_refl _)
  rw [← hC, List.take_length] at this
  have htk : (rowsV D rids D.length).take D.length = rowsV D rids D.length := List.take_of_length_le (by rw [rowsV_len]; exact Nat.le_refl _)
  rw [hC] at this
  simp [ho, rowsV_len, htk, this, clkV, hC]
theorem crounds_loop {vD vN : AV} {D : List Int} {N : List Note} {K : List (List (List Int))} (hN : IsSl noteC vN N) (c0 : Clocks D N K) (rD : Reach D N D) {oid : Nat} {rids : Nat → Nat} : ∀ (k : Nat) (R : Nat) (m : Mem) (C : List (List (List Int))) (x : List Int), R + k = 24 → CAt m oid rids D C → RInv D N C → Reach D N x → Settled K C x → D.sum ≤ x.sum + k →
    ∃ C', RInv D N C' ∧ Settled K C' D ∧
      r09_Clocks.L4 (.fptr [vD, vN]) (.sl oid 1 0 D.length D.length) (.int .i64 R) m [.code r09_Clocks.r30, .code .ret] = some (clkV C', Mem.empty) := by
  intro k
  induction k with
  | zero =>
    intro R m C x h1 c I r st hs
    refine ⟨C, I, settled_all c0 rD r st (by omega), ?_⟩
    have e : R = 24 := by omega
    subst e
    have := deep_rows c I 2
    rw [r09_Clocks.L4_eq]
    simp at this
    simp [this]
    done
  | succ k ih =>
    intro R m C x h1 c I r st hs
    obtain ⟨m1, C1, i1, i2, i3⟩ := chands_loop (vD := vD) hN c0.P (rids := rids) (R := (R : Int)) (by omega) (by omega) [.code r09_Clocks.r30, .code .ret] D.length 0 m C (by omega) c I
    have rd : Round D N C C1 := i2.round (fun g i hg hi => ⟨by omega, hg, hi⟩) c0.P
    obtain ⟨y, y1, y2, y3, y4⟩ := round_next c0 rD rd r st
    obtain ⟨C', j1, j2, j3⟩ := ih (R + 1) m1 C1 y (by omega) i1 i2.inv y1 y2 (by omega)
    refine ⟨C', j1, j2, ?_⟩
    have hR : R < 24 := by omega
    simp only [Int.natCast_add, Int.cast_ofNat_Int] at j3
    simp only [Int.cast_ofNat_Int] at i3
    rw [← j3, ← i3, r09_Clocks.L4_eq]
    simp [show (R : Int) < 24 by omega]
    done
theorem sum_six (D : List Int) (h4 : D.length ≤ 4) (hi : ∀ i, nth D i ≤ 6) : D.sum ≤ 24 := by
  have h0 := hi 0; have h1 := hi 1; have h2 := hi 2; have h3 := hi 3
  match D, h4 with
  | [], _ => simp
  | [a], _ => simp [nth] at *; omega
  | [a, b], _ => simp [nth] at *; omega
  | [a, b, c], _ => simp [nth] at *; omega
  | [a, b, c, d], _ => simp [nth] at *; omega
theorem clocksR_spec {v : AV} {D : List Int} {N : List Note} {K : List (List (List Int))} (hs : IsTale v D N) (V : ValidS D N) (c0 : Clocks D N K) :
    ∃ C, RInv D N C ∧ (∀ (h i : Nat), (i : Int) < nth D h → ∀ q, kn C h i q = kn K h i q) ∧ ∀ m, denC prog ann 34 [v] m = some (clkV C, m) := by
  obtain ⟨vD, vN, rfl, hD, hN⟩ := hs.ex
  have L := c0.P.L
  have u0 : CAt ⟨upd Mem.empty.h 0 (some (.cells [])), 1⟩ 0 (fun _ => 0) D (unitsC D 0) := ⟨by simp [unitsC, rowsV], fun h hh => by simp [unitsC] at hh, by show 0 < 1; omega, fun h hh => by simp [unitsC] at hh, fun h hh => by simp [unitsC] at hh, fun g h hg => by simp [unitsC] at hg⟩
  obtain ⟨m1, rids, a1, a2⟩ := build_loop (vN := vN) hD L.n4 L.hi L.lo (oid := 0) [.code r09_Clocks.r13, .code r09_Clocks.k4, .code r09_Clocks.r30, .code .ret] D.length 0 ⟨upd Mem.empty.h 0 (some (.cells [])), 1⟩ (fun _ => 0) (by omega) u0
  obtain ⟨C, b1, b2, b3⟩ := crounds_loop (vD := vD) hN c0 V.all 24 0 m1 (unitsC D D.length) (List.replicate D.length 0) rfl a1 (units_inv L) Reach.zero (fun h i hi => by rw [nth_zero'] at hi; omega) (by have := sum_six D L.n4 L.hi; simp; omega)
  refine ⟨C, b1, fun h i hi q => settled_eq c0 b1 b2 hi q, fun m => ?_⟩
  rw [r09_Clocks.call_eq _ _ (by simp [hD.closed, hN.closed])]
  simp at a2 b3
  rw [r09_Clocks.b_eq]
  have e0 : den prog ann 34 (.code r09_Clocks.r0 :: .code r09_Clocks.r1 :: .code r09_Clocks.r2 :: .code r09_Clocks.k0 :: [.code r09_Clocks.r13, .code r09_Clocks.k4, .code r09_Clocks.r30, .code .ret]) ⟨[(0, .agg [vD, vN])], 138, Mem.empty⟩ = r09_Clocks.L0 (.fptr [vD, vN]) (.sl 0 1 0 0 0) (.int .i64 0) ⟨upd Mem.empty.h 0 (some (.cells [])), 1⟩ [.code r09_Clocks.r13, .code r09_Clocks.k4, .code r09_Clocks.r30, .code .ret] := by
    simp [hD.one, hN.one, hD.closed, hN.closed]
  rw [e0, a2, r09_Clocks.L0_eq]
  simp [hD.len, b3]
end Go.Proofs.Ytdkmepjedjclkaa

/-
  WatchBefore RETURNS TRUE. Conditions: none.
-/
namespace Go.Proofs.Ytdkmepjedjclkaa
open Go.AM
open Go.Proofs.Try (prog)
set_option linter.all false
set_option maxRecDepth 100000
set_option maxHeartbeats 4000000
theorem clkC_len (C : List (List (List Int))) : ∀ x ∈ C, (clkC x).length = 1 := fun _ _ => rfl
theorem kth_eq {C : List (List (List Int))} {i : Nat} (h : i < C.length) : C[i]? = some (kth C i) := by
  rw [List.getElem?_eq_getElem h]; simp [kth, List.getD, List.getElem?_eq_getElem h]
theorem load_clk {C : List (List (List Int))} {i : Nat} (h : i < C.length) : loadF false 1 (.fptr (flatC clkC (C.drop i))) = some (.fsl false (kth C i).length (flatC rowC (kth C i))) := by
  rw [flatC_at (kth_eq h)]; simp [clkC]
theorem load_row {R : List (List Int)} {i : Nat} (h : i < R.length) : loadF false 1 (.fptr (flatC rowC (R.drop i))) = some (.fsl false (cth R i).length (ints (cth R i))) := by
  rw [flatC_at (cth_eq h)]; simp [rowC]
theorem clkV_idx {C : List (List (List Int))} {i : Nat} (h : i < C.length) (k : IntKind) : idxSl 1 (clkV C) (.int k (i : Int)) = some (.fptr (flatC clkC (C.drop i))) := (IsSl.fsl (f := clkC) false C).idx (clkC_len C) h k
@[simp] theorem clkV_closed (C : List (List (List Int))) : (clkV C).closed = true := rfl
@[simp] theorem clkV_one (C : List (List (List Int))) : (clkV C).one = true := rfl
@[simp] theorem clkV_cells (C : List (List (List Int))) : (clkV C).cells = [clkV C] := rfl
@[simp] theorem clkV_deep (C : List (List (List Int))) (h : Nat → Option AObj) (d : Nat) : deep h (d + 1) (clkV C) = some (clkV C) := rfl
end Go.Proofs.Ytdkmepjedjclkaa

/-
  watch.Clocks: ITS ROWS IN MEMORY. Conditions: none.
-/
namespace Go.Proofs.Ytdkmepjedjclkaa
open Go.AM
open Go.Proofs.Try (prog)
set_option linter.all false
set_option maxRecDepth 100000
set_option maxHeartbeats 4000000
theorem appV_full {size by' n : Nat} {ex : Bool} {cs : List AV} (h : size ≠ 0) (hl : cs.length = n * size) (hc : closedL cs = true) (hr : room n by' = true) (hn : n ≠ 0) :
    appV size by' (.fsl true 0 []) (.fsl ex n cs) = some (.fsl false n cs) := by
  have h' : (size == 0) = false := by simpa using h
  have hn' : (n == 0) = false := by simpa using hn
  have hr' := hr
  simp at hr'
  simp [appV, appF, h', hl, hn', hr', hc]
  simp [← hl]
theorem list_fix {v : AV} {n : Nat} {D : List Int} {K : List (List (List Int))} (s : IsStory v n D K) {c : List Int} (hc : c.length = 4) (m : Mem) :
    denC prog ann 63 [v, .agg (ints c)] m = some (.fsl false n (ints (c.take n)), m) := by
  obtain ⟨V, rfl, hV, _⟩ := s.V
  have hn := s.n4
  have hn1 := s.n1
  have he := appV_full (size := 1) (by' := 8) (n := n) (ex := n == 4) (cs := ints (c.take n)) (by simp) (by simp [hc]; omega) (by simp) (by simp [room]; omega) (by omega)
  have hcl : ∀ m, denC prog ann 98 [.fsl (n == 4) n (ints (c.take n))] m = some (.fsl false n (ints (c.take n)), m) := by
    intro m
    rw [slices_Clone_int.call_eq _ _ (by simp)]
    simp [nil22, he]
  rw [watch_story_list.call_eq _ _ _ (by simp)]
  have hn' : (n : Int) ≤ 4 := by omega
  simp [sliceArr, bnds, bnd, hc, hn', hcl]
def slR (ids : Nat → Nat) (R : List (List (List Int))) (g : Nat) : AV := if kth R g = [] then .nils else .sl (ids g) 1 0 (kth R g).length (kth R g).length
def outR (ids : Nat → Nat) (R : List (List (List Int))) (n : Nat) : List AV := (List.range n).map (slR ids R)
theorem outR_len (ids : Nat → Nat) (R : List (List (List Int))) (n : Nat) : (outR ids R n).length = n := by simp [outR]
@[simp] theorem outR_getElem (ids : Nat → Nat) (R : List (List (List Int))) {n h : Nat} (hh : h < (outR ids R n).length) : (outR ids R n)[h] = slR ids R h := by simp [outR]
structure WAt (m : Mem) (oid : Nat) (ids : Nat → Nat) (n : Nat) (R : List (List (List Int))) : Prop where
  o : m.h oid = some (.cells (outR ids R n))
  r : ∀ h, kth R h ≠ [] → m.h (ids h) = some (.cells (flatC rowC (kth R h)))
  ol : oid < m.nx
  rl : ∀ h, kth R h ≠ [] → ids h < m.nx
  ne : ∀ h, kth R h ≠ [] → oid ≠ ids h
  inj : ∀ g h, kth R g ≠ [] → kth R h ≠ [] → ids g = ids h → g = h
def pushR (R : List (List (List Int))) (h : Nat) (x : List Int) : List (List (List Int)) := R.set h (kth R h ++ [x])
theorem kth_push {R : List (List (List Int))} {h : Nat} {x : List Int} (hh : h < R.length) (g : Nat) : kth (pushR R h x) g = if g = h then kth R h ++ [x] else kth R g := by rw [pushR, kth_set hh]
theorem outR_set {ids : Nat → Nat} {R : List (List (List Int))} {n h : Nat} {x : List Int} (hh : h < R.length) (hn : h < n) {ids' : Nat → Nat} (hi : ∀ g, g ≠ h → ids' g = ids g) :
    (outR ids R n).set h (.sl (ids' h) 1 0 ((kth R h).length + 1) ((kth R h).length + 1)) = outR ids' (pushR R h x) n := by
  refine List.ext_getElem (by simp [outR]) fun g h1 h2 => ?_
  rw [List.getElem_set]
  have hg : g < n := by simpa [outR] using h2
  by_cases e : h = g
  · subst e
    rw [if_pos rfl, outR_getElem]
    simp [slR, kth_push hh]
  · rw [if_neg e, outR_getElem, outR_getElem]
    have e' : ¬ g = h := fun x => e x.symm
    simp [slR, kth_push hh, e', hi g e']
theorem WAt.push {m m' : Mem} {oid : Nat} {ids : Nat → Nat} {n : Nat} {R : List (List (List Int))} (w : WAt m oid ids n R) {h : Nat} (hh : h < R.length) (hn : h < n) {x : List Int} {ids' : Nat → Nat} (hi : ∀ g, g ≠ h → ids' g = ids g)
    (h1 : m'.h oid = some (.cells ((outR ids R n).set h (.sl (ids' h) 1 0 ((kth R h).length + 1) ((kth R h).length + 1)))))
    (h2 : m'.h (ids' h) = some (.cells (flatC rowC (kth R h ++ [x]))))
    (h3 : ∀ id, id < m.nx → id ≠ oid → id ≠ ids' h → m'.h id = m.h id) (h4 : m.nx ≤ m'.nx) (h5 : ids' h < m'.nx) (h6 : oid ≠ ids' h) (h7 : ∀ g, g ≠ h → kth R g ≠ [] → ids g ≠ ids' h) : WAt m' oid ids' n (pushR R h x) := by
  refine ⟨by rw [h1, outR_set (ids' := ids') hh hn hi], fun g hg => ?_, Nat.lt_of_lt_of_le w.ol h4, fun g hg => ?_, fun g hg => ?_, fun g g' hg hg' e => ?_⟩
  · by_cases e : g = h
    · subst e; rw [kth_push hh, if_pos rfl]; exact h2
    · rw [kth_push hh, if_neg e] at hg ⊢
      rw [hi g e, h3 _ (w.rl g hg) (fun x => w.ne g hg x.symm) (h7 g e hg)]; exact w.r g hg
  · by_cases e : g = h
    · subst e; exact h5
    · rw [kth_push hh, if_neg e] at hg
      rw [hi g e]; exact Nat.lt_of_lt_of_le (w.rl g hg) h4
  · by_cases e : g = h
    · subst e; exact h6
    · rw [kth_push hh, if_neg e] at hg
      rw [hi g e]; exact w.ne g hg
  · by_cases e1 : g = h
    · by_cases e2 : g' = h
      · omega
      · rw [kth_push hh, if_neg e2] at hg'
        rw [e1, hi g' e2] at e; exact absurd e.symm (h7 g' e2 hg')
    · rw [kth_push hh, if_neg e1] at hg
      by_cases e2 : g' = h
      · rw [e2, hi g e1] at e; exact absurd e (h7 g e1 hg)
      · rw [kth_push hh, if_neg e2] at hg'
        rw [hi g e1, hi g' e2] at e; exact w.inj g g' hg hg' e
def rowsN (K : List (List (List Int))) (n h : Nat) : List (List Int) := (kth K h).map fun c => c.take n
def partR (K : List (List (List Int))) (n h i : Nat) : List (List (List Int)) := (List.range n).map fun g => if g < h then rowsN K n g else if g = h then (rowsN K n g).take i else []
theorem partR_len (K : List (List (List Int))) (n h i : Nat) : (partR K n h i).length = n := by simp [partR]
theorem partR_kth (K : List (List (List Int))) {n g : Nat} (h i : Nat) (hg : g < n) : kth (partR K n h i) g = if g < h then rowsN K n g else if g = h then (rowsN K n g).take i else [] := by
  simp [kth, partR, List.getD, List.getElem?_map, List.getElem?_range hg]
theorem partR_out (K : List (List (List Int))) {n g : Nat} (h i : Nat) (hg : n ≤ g) : kth (partR K n h i) g = [] := by
  simp [kth, partR, List.getD, List.getElem?_eq_none (show (List.range n).length ≤ g by simpa using hg), hg]
theorem ext_kth {A B : List (List (List Int))} (hl : A.length = B.length) (h : ∀ g, g < A.length → kth A g = kth B g) : A = B := by
  refine List.ext_getElem hl fun g h1 h2 => ?_
  have := h g h1
  simpa [kth, List.getD, List.getElem?_eq_getElem h1, List.getElem?_eq_getElem h2] using this
theorem partR_push {K : List (List (List Int))} {n h i : Nat} (hn : h < n) (hi : i < (kth K h).length) : pushR (partR K n h i) h ((cth (kth K h) i).take n) = partR K n h (i + 1) := by
  have hl := partR_len K n h i
  refine ext_kth (by simp [pushR, partR_len]) fun g hg => ?_
  have hg' : g < n := by simpa [pushR, partR_len] using hg
  rw [kth_push (by omega), partR_kth K h (i + 1) hg']
  by_cases e : g = h
  · subst e
    have hi' : i < (rowsN K n g).length := by simpa [rowsN] using hi
    rw [if_pos rfl, partR_kth K g i hg', if_neg (by omega), if_pos rfl, if_neg (by omega), if_pos rfl, List.take_add_one, List.getElem?_eq_getElem hi']
    have := cth_eq hi
    simp [rowsN, List.getElem?_eq_getElem hi] at this ⊢
    rw [this]
  · rw [if_neg e, partR_kth K h i hg', if_neg e, if_neg e]
theorem partR_next {K : List (List (List Int))} {n h i : Nat} (hi : (kth K h).length ≤ i) : partR K n h i = partR K n (h + 1) 0 := by
  refine ext_kth (by simp [partR_len]) fun g hg => ?_
  have hg' : g < n := by simpa [partR_len] using hg
  rw [partR_kth K h i hg', partR_kth K (h + 1) 0 hg']
  by_cases e : g < h
  · rw [if_pos e, if_pos (by omega)]
  · rw [if_neg e]
    by_cases e2 : g = h
    · subst e2
      rw [if_pos rfl, if_pos (by omega), List.take_of_length_le (by simpa [rowsN] using hi)]
    · rw [if_neg e2, if_neg (by omega)]
      split <;> simp
end Go.Proofs.Ytdkmepjedjclkaa

/-
  watch.Clocks: WHAT IT COMPUTES. Conditions: none.
-/
namespace Go.Proofs.Ytdkmepjedjclkaa
open Go.AM
open Go.Proofs.Try (prog)
set_option linter.all false
set_option maxRecDepth 100000
set_option maxHeartbeats 4000000
theorem wrow_loop {V : List AV} {n : Nat} {D : List Int} {K : List (List (List Int))} (hV : V.length = 4) (hS : ∀ h, h < 4 → IsSl ints (vth V h) (kth K h)) (s : IsStory (.fptr (.int .i64 n :: (ints D ++ V))) n D K) {oid : Nat} {h : Nat} (hh : h < n) (Kc : List Item) : ∀ (k i : Nat) (m : Mem) (ids : Nat → Nat), i + k = (kth K h).length → WAt m oid ids n (partR K n h i) →
    ∃ m' ids', WAt m' oid ids' n (partR K n (h + 1) 0) ∧
      watch_Clocks.L2 (.fptr (.int .i64 n :: (ints D ++ V))) (.sl oid 1 0 n n) (.int .i64 h) (.int .i64 n) (.int .i64 h) (vth V h) (.int .i64 (kth K h).length) (.int .i64 i) m (.inBlock 1 :: .code watch_Clocks.r13 :: .inLoop watch_Clocks.l0 :: .inBlock 0 :: Kc) =
        watch_Clocks.L0 (.fptr (.int .i64 n :: (ints D ++ V))) (.sl oid 1 0 n n) (.int .i64 n) (.int .i64 ((h : Int) + 1)) m' Kc := by
  have hn4 := s.n4
  have hwh : IntKind.wrap .i64 ((h : Int) + 1) = (h : Int) + 1 := wrap_id (by omega) (by omega)
  intro k
  induction k with
  | zero =>
    intro i m ids h1 w
    have e : i = (kth K h).length := by omega
    refine ⟨m, ids, by rw [← partR_next (i := i) (by omega)]; exact w, ?_⟩
    rw [watch_Clocks.L2_eq]
    simp [e, hwh]
    done
  | succ k ih =>
    intro i m ids h1 w
    have hi : i < (kth K h).length := by omega
    have hf := s.few h
    have hw : IntKind.wrap .i64 ((i : Int) + 1) = (i : Int) + 1 := wrap_id (by omega) (by omega)
    have hc4 : (cth (kth K h) i).length = 4 := s.four h _ (cth_mem hi)
    have hidx := (hS h (by omega)).idx (s.four h).cells hi .i64
    have hld := load_cut (s.four h) hi
    have hlist := list_fix s hc4
    have hpl := partR_len K n h i
    have hrow : kth (partR K n h i) h = (rowsN K n h).take i := by rw [partR_kth K h i hh, if_neg (by omega), if_pos rfl]
    have hlr : ((rowsN K n h).take i).length = i := by simp [rowsN]; omega
    have hol := w.ol
    have ho := w.o
    have htk : ((cth (kth K h) i).take n).length = n := by simp [hc4]; omega
    have hn1 := s.n1
    have htk4 : (cth (kth K h) i).take 4 = cth (kth K h) i := List.take_of_length_le (by omega)
    by_cases q : i = 0
    · have he : kth (partR K n h i) h = [] := by rw [hrow, q]; simp
      let ids' : Nat → Nat := fun g => if g = h then m.nx + 1 + 10 else ids g
      have r0 : ids' h = m.nx + 1 + 10 := if_pos rfl
      have r1 : ∀ g, g ≠ h → ids' g = ids g := fun g hg => if_neg hg
      have w1 : WAt ⟨upd (upd (upd m.h m.nx none) (m.nx + 1 + 10) (some (.cells [.fsl false n (ints ((cth (kth K h) i).take n))]))) oid (some (.cells ((outR ids (partR K n h i) n).set h (.sl (m.nx + 1 + 10) 1 0 1 1)))), m.nx + 1 + 13⟩ oid ids' n (pushR (partR K n h i) h ((cth (kth K h) i).take n)) := by
        refine w.push (by omega) hh (ids' := ids') r1 ?_ ?_ (fun id a b c => ?_) (by show m.nx ≤ m.nx + 1 + 13; omega) (by rw [r0]; show m.nx + 1 + 10 < m.nx + 1 + 13; omega) (by rw [r0]; omega) (fun g hg hne => by rw [r0]; have := w.rl g hne; omega)
        · rw [r0, he]; simp
        · rw [r0, he]
          show upd _ oid _ (m.nx + 1 + 10) = _
          rw [updNe (by omega)]
          simp [rowC, flatC, htk]
        · rw [r0] at c
          show upd _ oid _ id = _
          rw [updNe b, updNe c, updNe (by omega)]
      rw [partR_push hh hi] at w1
      obtain ⟨m', ids2, j1, j2⟩ := ih (i + 1) _ ids' (by omega) w1
      refine ⟨m', ids2, j1, ?_⟩
      simp only [Int.natCast_add, Int.cast_ofNat_Int] at j2
      rw [← j2, watch_Clocks.L2_eq]
      have e1 : (oid == m.nx) = false := beq_eq_false_iff_ne.2 (by omega)
      have e2 : (oid == m.nx + 1 + 10) = false := beq_eq_false_iff_ne.2 (by omega)
      have hs : slR ids (partR K n h i) h = .nils := by simp [slR, he]
      subst q
      simp only [List.drop_zero, Int.ofNat_zero, Int.cast_ofNat_Int] at hidx hld ⊢
      simp [hi, hidx, hld, htk4, hc4, hw, hlist, ho, outR_len, e1, e2, hs, hh]
      done
    · have hne : kth (partR K n h i) h ≠ [] := by rw [hrow]; intro e; rw [e] at hlr; simp at hlr; omega
      have hrl := w.rl h hne
      have hno := w.ne h hne
      have hr := w.r h hne
      have w1 : WAt ⟨upd (upd (upd m.h m.nx none) (ids h) (some (.cells (flatC rowC ((rowsN K n h).take i) ++ [.fsl false n (ints ((cth (kth K h) i).take n))])))) oid (some (.cells ((outR ids (partR K n h i) n).set h (.sl (ids h) 1 0 (i + 1) (i + 1))))), m.nx + 1 + 13⟩ oid ids n (pushR (partR K n h i) h ((cth (kth K h) i).take n)) := by
        refine w.push (by omega) hh (ids' := ids) (fun _ _ => rfl) ?_ ?_ (fun id a b c => ?_) (by show m.nx ≤ m.nx + 1 + 13; omega) (by show ids h < m.nx + 1 + 13; omega) hno (fun g hg hne' e => hg (w.inj g h hne' hne e))
        · rw [hrow, hlr]; simp
        · rw [hrow]
          show upd _ oid _ (ids h) = _
          rw [updNe (fun x => hno x.symm)]
          simp [flatC_append, flatC_one, rowC, htk]
        · show upd _ oid _ id = _
          rw [updNe b, updNe c, updNe (by omega)]
      rw [partR_push hh hi] at w1
      obtain ⟨m', ids2, j1, j2⟩ := ih (i + 1) _ ids (by omega) w1
      refine ⟨m', ids2, j1, ?_⟩
      simp only [Int.natCast_add, Int.cast_ofNat_Int] at j2
      rw [← j2, watch_Clocks.L2_eq]
      have e1 : (oid == m.nx) = false := beq_eq_false_iff_ne.2 (by omega)
      have e2 : (ids h == m.nx) = false := beq_eq_false_iff_ne.2 (by omega)
      have e3 : (oid == ids h) = false := beq_eq_false_iff_ne.2 hno
      have hs : slR ids (partR K n h i) h = .sl (ids h) 1 0 i i := by
        have hne' := hne
        rw [hrow] at hne'
        simp only [slR, hrow, if_neg hne', hlr]
      rw [hrow] at hr
      have hfl : (flatC rowC ((rowsN K n h).take i)).length = i := by rw [flatC_row_len, hlr]
      simp [hi, hidx, hld, htk4, hc4, hw, hlist, ho, outR_len, e1, e2, e3, hs, hh, hr, hfl, show i ≤ 4611686018427387903 by omega, show (i + 1) * 24 ≤ 70368744177664 by omega]
      done
end Go.Proofs.Ytdkmepjedjclkaa

/-
  watch.Clocks: WHAT IT HANDS BACK. Conditions: none.
-/
namespace Go.Proofs.Ytdkmepjedjclkaa
open Go.AM
open Go.Proofs.Try (prog)
set_option linter.all false
set_option maxRecDepth 100000
set_option maxHeartbeats 4000000
theorem mapO_map {α : Type} {f : AV → Option AV} {a b : α → AV} : ∀ l : List α, (∀ x ∈ l, f (a x) = some (b x)) → mapO f (l.map a) = some (l.map b)
  | [], _ => rfl
  | x :: l, h => by
    rw [List.map_cons, mapO_cons, h x (by simp), mapO_map l fun y hy => h y (by simp [hy])]; rfl
def slotV (K : List (List (List Int))) (n h : Nat) : AV := if rowsN K n h = [] then .nils else .fsl false (rowsN K n h).length (flatC rowC (rowsN K n h))
theorem slotV_is (K : List (List (List Int))) (n h : Nat) : IsSl rowC (slotV K n h) (rowsN K n h) := by
  by_cases e : rowsN K n h = []
  · exact .inl ⟨by rw [slotV, if_pos e], e⟩
  · exact .inr ⟨false, by rw [slotV, if_neg e]⟩
def wclkV (K : List (List (List Int))) (n : Nat) : AV := .fsl false n ((List.range n).map (slotV K n))
theorem wclk_idx (K : List (List (List Int))) {n h : Nat} (hh : h < n) (k : IntKind) : idxSl 1 (wclkV K n) (.int k (h : Int)) = some (.fptr (((List.range n).map (slotV K n)).drop h)) := by simp [wclkV, hh]
theorem wclk_load (K : List (List (List Int))) {n h : Nat} (hh : h < n) : loadF false 1 (.fptr (((List.range n).map (slotV K n)).drop h)) = some (slotV K n h) := by
  simp [List.head?_drop, hh]
@[simp] theorem wclk_closed (K : List (List (List Int))) (n : Nat) : (wclkV K n).closed = true := rfl
@[simp] theorem wclk_one (K : List (List (List Int))) (n : Nat) : (wclkV K n).one = true := rfl
@[simp] theorem wclk_cells (K : List (List (List Int))) (n : Nat) : (wclkV K n).cells = [wclkV K n] := rfl
@[simp] theorem wclk_deep (K : List (List (List Int))) (n : Nat) (h : Nat → Option AObj) (d : Nat) : deep h (d + 1) (wclkV K n) = some (wclkV K n) := rfl
@[simp] theorem wclk_len (K : List (List (List Int))) (n : Nat) : lenSl (wclkV K n) = some (.int .i64 n) := rfl
@[simp] theorem wclk_frz (K : List (List (List Int))) (n : Nat) (m : Mem) : frzV (wclkV K n) m = some (wclkV K n, m) := rfl
theorem wclk_build {m : Mem} {oid : Nat} {ids : Nat → Nat} {n : Nat} {K : List (List (List Int))} (w : WAt m oid ids n (partR K n n 0)) (d : Nat) : deep m.h (d + 4) (.sl oid 1 0 n n) = some (wclkV K n) := by
  have ho := w.o
  have key : mapO (deep m.h (d + 3)) (outR ids (partR K n n 0) n) = some ((List.range n).map (slotV K n)) := by
    refine mapO_map _ fun h hh => ?_
    have hh' := List.mem_range.1 hh
    have hk : kth (partR K n n 0) h = rowsN K n h := by rw [partR_kth K n 0 hh', if_pos hh']
    by_cases e : rowsN K n h = []
    · simp [slR, hk, slotV, e]
    · have hr := w.r h (by rw [hk]; exact e)
      rw [hk] at hr
      have hdp : mapO (deep m.h (d + 2)) (flatC rowC (rowsN K n h)) = some (flatC rowC (rowsN K n h)) := flatC_deep _ _ (fun a => by simp [rowC]) _
      have htk : (flatC rowC (rowsN K n h)).take (rowsN K n h).length = flatC rowC (rowsN K n h) := List.take_of_length_le (by rw [flatC_row_len]; exact Nat.le_refl _)
      simp [slR, hk, slotV, e, hr, flatC_row_len, htk, hdp]
  have htk : (outR ids (partR K n n 0) n).take n = outR ids (partR K n n 0) n := List.take_of_length_le (by rw [outR_len]; exact Nat.le_refl _)
  simp [ho, outR_len, htk, key, wclkV]
theorem wclk_loop {V : List AV} {n : Nat} {D : List Int} {K : List (List (List Int))} (hV : V.length = 4) (hS : ∀ h, h < 4 → IsSl ints (vth V h) (kth K h)) (s : IsStory (.fptr (.int .i64 n :: (ints D ++ V))) n D K) {oid : Nat} : ∀ (k h : Nat) (m : Mem) (ids : Nat → Nat), h + k = n → WAt m oid ids n (partR K n h 0) →
    watch_Clocks.L0 (.fptr (.int .i64 n :: (ints D ++ V))) (.sl oid 1 0 n n) (.int .i64 n) (.int .i64 h) m [.code watch_Clocks.r14, .code .ret] = some (.tup [wclkV K n, .int .i64 0], Mem.empty) := by
  have hn4 := s.n4
  intro k
  induction k with
  | zero =>
    intro h m ids h1 w
    have e : h = n := by omega
    subst e
    have := wclk_build w 1
    simp at this
    rw [watch_Clocks.L0_eq]
    simp [this]
    done
  | succ k ih =>
    intro h m ids h1 w
    have hh : h < n := by omega
    obtain ⟨m', ids', i1, i2⟩ := wrow_loop hV hS s hh [.code watch_Clocks.r14, .code .ret] (kth K h).length 0 m ids (by omega) w
    have := ih (h + 1) m' ids' (by omega) i1
    simp only [Int.natCast_add, Int.cast_ofNat_Int] at this
    simp only [Int.cast_ofNat_Int] at i2
    have hD := s.D4
    have hld : (ints D ++ V)[h + 4]? = some (vth V h) := by
      rw [List.getElem?_append_right (by simp; omega)]
      simp only [ints_len, hD, Nat.add_sub_cancel]
      exact vth_eq (by omega)
    have hlen := (hS h (by omega)).len
    have hdr : (List.drop 4 (ints D ++ V)) = V := by rw [List.drop_left' (by simp [hD])]
    have hv := vth_head (V := V) (i := h) (by omega)
    rw [← this, ← i2, watch_Clocks.L0_eq]
    simp [hh, show h < 4 by omega, hdr, hv, hlen, hV]
    done
inductive ClkRes (D : List Int) (N : List Note) : AV → Int → Prop where
  | bad (h : ¬ ValidS D N) : ClkRes D N .nils 1
  | ok {K : List (List (List Int))} (v : ValidS D N) (k : Clocks D N K) : ClkRes D N (wclkV K D.length) 0
theorem clocksV_spec {v : AV} {D : List Int} {N : List Note} (hs : IsTale v D N) (hl : D.length < 100000) (hn : N.length < 100000) :
    ∃ x e, ClkRes D N x e ∧ ∀ m, denC prog ann 43 [v] m = some (.tup [x, .int .i64 e], m) := by
  have hs' := hs
  obtain ⟨r, hr, er⟩ := readV_spec hs hl hn
  obtain ⟨vD, vN, rfl, h1, h2⟩ := hs.ex
  have hcl : closedL [.agg [vD, vN]] = true := by simp [h1.closed, h2.closed]
  cases hr with
  | no h =>
    refine ⟨.nils, 1, .bad h, fun m => ?_⟩
    rw [watch_Clocks.call_eq _ _ hcl]
    simp [h1.one, h2.one, h1.closed, h2.closed, er]
  | @ok sv K val k s =>
    have s' := s
    obtain ⟨V, rfl, hV, hS⟩ := s.V
    refine ⟨_, 0, .ok val k, fun m => ?_⟩
    have hn4 := s'.n4
    have hrep : List.replicate D.length AV.nils = outR (fun _ => 0) (partR K D.length 0 0) D.length := by
      refine List.ext_getElem (by simp [outR]) fun g g1 g2 => ?_
      have hg : g < D.length := by simpa using g1
      rw [outR_getElem, slR, partR_kth K 0 0 hg]
      have : (if g < 0 then rowsN K D.length g else if g = 0 then (rowsN K D.length g).take 0 else []) = [] := by
        rw [if_neg (by omega)]; split <;> simp
      rw [this]; simp
    have he : ∀ g, kth (partR K D.length 0 0) g = [] := by
      intro g
      rcases Nat.lt_or_ge g D.length with hg | hg
      · rw [partR_kth K 0 0 hg, if_neg (by omega)]; split <;> simp
      · exact partR_out K 0 0 hg
    have w0 : WAt ⟨upd Mem.empty.h 0 (some (.cells (outR (fun _ => 0) (partR K D.length 0 0) D.length))), 1⟩ 0 (fun _ => 0) D.length (partR K D.length 0 0) := ⟨by simp, fun h hh => absurd (he h) hh, by show 0 < 1; omega, fun h hh => absurd (he h) hh, fun h hh => absurd (he h) hh, fun g h hg => absurd (he g) hg⟩
    have := wclk_loop hV hS s' D.length 0 _ _ (by omega) w0
    simp only [Int.cast_ofNat_Int, Int.ofNat_zero] at this
    rw [watch_Clocks.call_eq _ _ hcl]
    simp [h1.one, h2.one, h1.closed, h2.closed, er, hrep, this, outR_len, show D.length ≤ 4611686018427387904 by omega, show D.length * 24 ≤ 70368744177664 by omega]
    done
end Go.Proofs.Ytdkmepjedjclkaa

/-
  SLICES WHOSE ELEMENTS ARE THEMSELVES SLICES, AS VALUES. Conditions: none.
-/
namespace Go.AM
set_option linter.all false
def cAt (cs : List AV) (i : Nat) : AV := cs.getD i .undef
theorem cAt_eq {cs : List AV} {i : Nat} (h : i < cs.length) : cs[i]? = some (cAt cs i) := by
  rw [List.getElem?_eq_getElem h]; simp [cAt, List.getD, List.getElem?_eq_getElem h]
theorem cAt_load {cs : List AV} {i : Nat} (h : i < cs.length) : loadF false 1 (.fptr (cs.drop i)) = some (cAt cs i) := by
  simp [List.head?_drop, cAt_eq h]
def gth {α : Type} [Inhabited α] (l : List α) (i : Nat) : α := l.getD i default
theorem gth_eq {α : Type} [Inhabited α] {l : List α} {i : Nat} (h : i < l.length) : l[i]? = some (gth l i) := by
  rw [List.getElem?_eq_getElem h]; simp [gth, List.getD, List.getElem?_eq_getElem h]
theorem gth_mem {α : Type} [Inhabited α] {l : List α} {i : Nat} (h : i < l.length) : gth l i ∈ l := List.mem_of_getElem? (gth_eq h)
theorem drop_gth {α : Type} [Inhabited α] {l : List α} {i : Nat} (h : i < l.length) : l.drop i = gth l i :: l.drop (i + 1) := by
  obtain ⟨h1, h2⟩ := List.getElem?_eq_some_iff.1 (gth_eq h)
  rw [List.drop_eq_getElem_cons h1, h2]
structure IsVec {α : Type} [Inhabited α] (R : AV → α → Prop) (v : AV) (cs : List AV) (l : List α) : Prop where
  n : cs.length = l.length
  rel : ∀ i, i < l.length → R (cAt cs i) (gth l i)
  cl : closedL cs = true
  v : (v = .nils ∧ l = []) ∨ ∃ ex, v = .fsl ex l.length cs
section
variable {α : Type} [Inhabited α] {R : AV → α → Prop} {v : AV} {cs : List AV} {l : List α}
theorem IsVec.closed (h : IsVec R v cs l) : v.closed = true := by rcases h.v with ⟨rfl, _⟩ | ⟨_, rfl⟩ <;> rfl
theorem IsVec.one (h : IsVec R v cs l) : v.one = true := by rcases h.v with ⟨rfl, _⟩ | ⟨_, rfl⟩ <;> rfl
theorem IsVec.cells (h : IsVec R v cs l) : v.cells = [v] := by rcases h.v with ⟨rfl, _⟩ | ⟨_, rfl⟩ <;> rfl
theorem IsVec.len (h : IsVec R v cs l) : lenSl v = some (.int .i64 l.length) := by rcases h.v with ⟨rfl, rfl⟩ | ⟨_, rfl⟩ <;> simp
theorem IsVec.deep (h : IsVec R v cs l) (hp : Nat → Option AObj) (d : Nat) : AM.deep hp (d + 1) v = some v := by rcases h.v with ⟨rfl, _⟩ | ⟨_, rfl⟩ <;> rfl
theorem IsVec.frz (h : IsVec R v cs l) (m : Mem) : frzV v m = some (v, m) := by rcases h.v with ⟨rfl, _⟩ | ⟨_, rfl⟩ <;> rfl
theorem IsVec.idx (h : IsVec R v cs l) {i : Nat} (hi : i < l.length) (k : IntKind) : idxSl 1 v (.int k (i : Int)) = some (.fptr (cs.drop i)) := by
  rcases h.v with ⟨rfl, rfl⟩ | ⟨_, rfl⟩
  · simp at hi
  · simp [hi]
theorem IsVec.load (h : IsVec R v cs l) {i : Nat} (hi : i < l.length) : loadF false 1 (.fptr (cs.drop i)) = some (cAt cs i) := cAt_load (by rw [h.n]; exact hi)
theorem IsVec.at (h : IsVec R v cs l) {i : Nat} (hi : i < l.length) : R (cAt cs i) (gth l i) := h.rel i hi
end
theorem vec_of {α : Type} [Inhabited α] {R : AV → α → Prop} {g : α → AV} (hg : ∀ a, R (g a) a) (hc : ∀ a, (g a).closed = true) (ex : Bool) (l : List α) : IsVec R (.fsl ex l.length (l.map g)) (l.map g) l := by
  refine ⟨by simp, fun i hi => ?_, ?_, .inr ⟨ex, rfl⟩⟩
  · have e := gth_eq hi
    have e2 := cAt_eq (cs := l.map g) (i := i) (by simpa using hi)
    rw [List.getElem?_map, e] at e2
    simp only [Option.map_some, Option.some.injEq] at e2
    rw [← e2]; exact hg _
  · induction l with
    | nil => rfl
    | cons a l ih => simp [hc a, ih]
def bnth (l : List Bool) (i : Nat) : Bool := l.getD i false
end Go.AM

/-
  BODIES OF FUNCTIONS OF THE PROGRAM AS SMALL OPERATIONS (written by gen.py; checked by the kernel against the program). Conditions: none.
-/
namespace Go.Proofs.Ytdkmepjedjclkaa
open Go.AM
open Go.Proofs.Try (prog)
set_option maxRecDepth 100000
set_option linter.all false
end Go.Proofs.Ytdkmepjedjclkaa

/-
  FLAGS: WHAT THE HANDS SAY. Conditions: none.
-/
namespace Go.Proofs.Ytdkmepjedjclkaa
open Go.AM
open Go.Proofs.Try (prog)
set_option linter.all false
set_option maxRecDepth 100000
set_option maxHeartbeats 4000000
def yesR (F : List (List Bool)) (c : List Int) (k h : Nat) : Bool := (List.range' h k).all fun h => bnth (gth F h) (nth c h).toNat
def yesB (F : List (List Bool)) (c : List Int) : Bool := yesR F c F.length 0
structure FlagsOk (D : List Int) (F : List (List Bool)) : Prop where
  n : F.length = D.length
  w : ∀ h, h < D.length → ((gth F h).length : Int) = nth D h + 1
inductive FlagsRes (D : List Int) (N : List Note) (F : List (List Bool)) (vF : AV) : AV → Int → Prop where
  | bad (h : ¬ ValidS D N) : FlagsRes D N F vF (.agg [.nilp, .nils]) 1
  | form (v : ValidS D N) (h : ¬ FlagsOk D F) : FlagsRes D N F vF (.agg [.nilp, .nils]) 2
  | ok {sv : AV} {K : List (List (List Int))} (v : ValidS D N) (h : FlagsOk D F) (k : Clocks D N K) (s : IsStory sv D.length (pad D) K) : FlagsRes D N F vF (.agg [sv, vF]) 0
end Go.Proofs.Ytdkmepjedjclkaa

/-
  FLAGS: WHAT ALL CUTS AT WHICH ALL HANDS SAY YES BECOME. Conditions: none.
-/
namespace Go.Proofs.Ytdkmepjedjclkaa
open Go.AM
open Go.Proofs.Try (prog)
set_option linter.all false
set_option maxRecDepth 100000
set_option maxHeartbeats 4000000
structure IsOp (fb : Nat) (op : List Int → List Int → List Int) : Prop where
  pure : (ann fb).pure = true
  call : ∀ a b : List Int, a.length = 4 → b.length = 4 → ∀ m, denC prog ann fb [.agg (ints a), .agg (ints b)] m = some (.agg (ints (op a b)), m)
  len : ∀ a b : List Int, a.length = 4 → b.length = 4 → (op a b).length = 4
section
variable {fb : Nat} {op : List Int → List Int → List Int} {sv vF : AV} {n : Nat} {D4 : List Int} {K : List (List (List Int))}
theorem IsStory.frz (s : IsStory sv n D4 K) (m : Mem) : frzV sv m = some (sv, m) := by obtain ⟨V, rfl, _⟩ := s.V; rfl
def outX (oid : Nat) (acc : List (List Int)) : AV := if acc = [] then .nils else .sl oid 4 0 acc.length (acc.length * 4)
def OutX (m : Mem) (oid : Nat) (acc : List (List Int)) : Prop := acc ≠ [] → m.h oid = some (.cells (flatC ints acc)) ∧ oid < m.nx
end
end Go.Proofs.Ytdkmepjedjclkaa

/-
  FLAGS: First AND Last; THE REFERENCE's. Conditions: none.
-/
namespace Go.Proofs.Ytdkmepjedjclkaa
open Go.AM
open Go.Proofs.Try (prog)
set_option linter.all false
set_option maxRecDepth 100000
set_option maxHeartbeats 4000000
def yesL (D : List Int) (N : List Note) (F : List (List Bool)) : List (List Int) := (cutsL D N).filter (yesB F)
def foldL (op : List Int → List Int → List Int) : List (List Int) → List Int
  | [] => []
  | x :: l => (x :: l).foldl op x
inductive EndsRes (op : List Int → List Int → List Int) (D : List Int) (N : List Note) (F : List (List Bool)) : AV → Int → Prop where
  | bad (h : ¬ ValidS D N) : EndsRes op D N F .nils 1
  | form (v : ValidS D N) (h : ¬ FlagsOk D F) : EndsRes op D N F .nils 2
  | none (v : ValidS D N) (h : FlagsOk D F) (e : yesL D N F = []) : EndsRes op D N F .nils 5
  | ok {x : AV} (v : ValidS D N) (h : FlagsOk D F) (e : yesL D N F ≠ []) (i : IsInts x (foldL op (yesL D N F))) : EndsRes op D N F x 0
end Go.Proofs.Ytdkmepjedjclkaa

/-
  MAPS KEYED BY CUTS. Conditions: none.
-/
namespace Go.Proofs.Ytdkmepjedjclkaa
open Go.AM
open Go.Proofs.Try (prog)
set_option linter.all false
set_option maxRecDepth 100000
theorem keyEq99 {a b : List Int} (ha : a.length = 4) (hb : b.length = 4) : keyEq prog 99 (.agg (ints a)) (.agg (ints b)) = some (decide (a = b)) := by
  have h := eqCs_ints 4 a b ha hb
  simp only [List.replicate] at h
  simp [keyEq, flat99, ha, hb, h]
theorem keyT99 {a : List Int} (ha : a.length = 4) : keyT prog 99 (.agg (ints a)) = true := by
  obtain ⟨a0, a1, a2, a3, rfl⟩ := four ha
  simp [keyT, flat99, scL, scV, und3]
abbrev Ents := List (List Int × AV)
def keysL (L : Ents) : List AV := L.map fun e => .agg (ints e.1)
def valsL (L : Ents) : List AV := L.map (·.2)
def lkL : Ents → List Int → Option AV
  | [], _ => none
  | e :: L, c => if e.1 = c then some e.2 else lkL L c
def setL : Ents → List Int → AV → Ents
  | [], c, v => [(c, v)]
  | e :: L, c, v => if e.1 = c then (c, v) :: L else e :: setL L c v
def Keys4 (L : Ents) : Prop := ∀ e ∈ L, e.1.length = 4
theorem findK99 : ∀ {L : Ents} {c : List Int}, Keys4 L → c.length = 4 → findK prog 99 (.agg (ints c)) (keysL L) (valsL L) = some (lkL L c)
  | [], c, _, _ => rfl
  | e :: L, c, h, hc => by
    have ih := findK99 (L := L) (c := c) (fun x hx => h x (by simp [hx])) hc
    have he : e.1.length = 4 := h e (by simp)
    simp only [keysL, valsL, List.map_cons, findK, keyEq99 hc he, Option.bind_some]
    simp only [keysL, valsL] at ih
    by_cases q : e.1 = c
    · simp [q, lkL]
    · have q' : ¬ c = e.1 := fun x => q x.symm
      simp [q, q', lkL, ih]
theorem setK99 : ∀ {L : Ents} {c : List Int} {v : AV}, Keys4 L → c.length = 4 → setK prog 99 (.agg (ints c)) v (keysL L) (valsL L) = some (keysL (setL L c v), valsL (setL L c v))
  | [], c, v, _, _ => rfl
  | e :: L, c, v, h, hc => by
    have ih := setK99 (L := L) (c := c) (v := v) (fun x hx => h x (by simp [hx])) hc
    have he : e.1.length = 4 := h e (by simp)
    simp only [keysL, valsL, List.map_cons, setK, keyEq99 hc he, Option.bind_some]
    simp only [keysL, valsL] at ih
    by_cases q : e.1 = c
    · simp [q, setL]
    · have q' : ¬ c = e.1 := fun x => q x.symm
      simp [q, q', setL, ih]
theorem setL_keys4 : ∀ {L : Ents} {c : List Int} {v : AV}, Keys4 L → c.length = 4 → Keys4 (setL L c v)
  | [], c, v, _, hc => fun e he => by simp [setL] at he; rw [he]; exact hc
  | x :: L, c, v, h, hc => fun e he => by
    rw [setL] at he
    split at he
    · rcases List.mem_cons.1 he with rfl | he
      · exact hc
      · exact h e (by simp [he])
    · rcases List.mem_cons.1 he with rfl | he
      · exact h e (by simp)
      · exact setL_keys4 (fun y hy => h y (by simp [hy])) hc e he
theorem lk_set : ∀ (L : Ents) (c : List Int) (v : AV) (d : List Int), lkL (setL L c v) d = if c = d then some v else lkL L d
  | [], c, v, d => by simp [setL, lkL]
  | e :: L, c, v, d => by
    rw [setL]
    by_cases q : e.1 = c
    · rw [if_pos q, lkL, lkL]
      by_cases q2 : c = d
      · rw [if_pos q2, if_pos q2]
      · rw [if_neg q2, if_neg q2, if_neg (by rw [q]; exact q2)]
    · rw [if_neg q, lkL, lkL, lk_set L c v d]
      by_cases q2 : e.1 = d
      · rw [if_pos q2, if_pos q2, if_neg (fun x => q (q2.trans x.symm))]
      · rw [if_neg q2, if_neg q2]
theorem keysL_closed : ∀ L : Ents, closedL (keysL L) = true
  | [] => rfl
  | e :: L => by
    have := keysL_closed L
    simp only [keysL] at this
    simp [keysL, this]
def mapV (L : Ents) : AV := .fmap (keysL L) (valsL L)
theorem lookM99 {L : Ents} {c : List Int} {m : Mem} {id g : Nat} (hm : m.h id = some (.map g (keysL L) (valsL L))) (h : Keys4 L) (hc : c.length = 4) (z : AV) (ok : Bool) : lookP prog m 99 z (.map id) (.agg (ints c)) ok = some (match lkL L c with
    | some v => bif ok then .tup [v, .bool true] else v
    | none => bif ok then .tup [z, .bool false] else z) := by
  simp only [lookP, keyT99 hc, cond_true, lookA, hm, findK99 h hc, Option.bind_some]
  cases lkL L c <;> rfl
theorem upd99 {L : Ents} {c : List Int} {m : Mem} {id g : Nat} {v : AV} (hm : m.h id = some (.map g (keysL L) (valsL L))) (h : Keys4 L) (hc : c.length = 4) : updM prog m 99 (.map id) (.agg (ints c)) v = some (.tup [], m.set id (some (.map (g + 1) (keysL (setL L c v)) (valsL (setL L c v))))) := by
  simp only [updM, updP, keyT99 hc, cond_true, hm, setK99 h hc, Option.bind_some, Option.map_some]
end Go.Proofs.Ytdkmepjedjclkaa

/-
  BODIES OF FUNCTIONS OF THE PROGRAM AS SMALL OPERATIONS (written by gen.py; checked by the kernel against the program). Conditions: none.
-/
namespace Go.Proofs.Ytdkmepjedjclkaa
open Go.AM
open Go.Proofs.Try (prog)
set_option maxRecDepth 100000
set_option linter.all false
end Go.Proofs.Ytdkmepjedjclkaa

/-
  SETS OF CUTS; Possibly. Conditions: none.
-/
namespace Go.Proofs.Ytdkmepjedjclkaa
open Go.AM
open Go.Proofs.Try (prog)
set_option linter.all false
set_option maxRecDepth 100000
set_option maxHeartbeats 4000000
def setE (rows : List (List Int)) (E : Ents) : Ents := rows.foldl (fun E r => setL E (pad r) (.bool true)) E
def TrueE (E : Ents) : Prop := ∀ e ∈ E, e.2 = .bool true
inductive SetRes (D : List Int) (N : List Note) (L : List (List Int)) : AV → AV → Int → Prop where
  | bad (h : ¬ ValidS D N) : SetRes D N L .nilp .nilm 1
  | long (v : ValidS D N) (h : 2500 < L.length) : SetRes D N L .nilp .nilm 3
  | form (v : ValidS D N) (h : L.length ≤ 2500) (h2 : L.all (cutB D) = false) : SetRes D N L .nilp .nilm 2
  | ok {sv : AV} {K : List (List (List Int))} (v : ValidS D N) (h : L.length ≤ 2500) (h2 : L.all (cutB D) = true) (k : Clocks D N K) (s : IsStory sv D.length (pad D) K) : SetRes D N L sv (mapV (setE L [])) 0
end Go.Proofs.Ytdkmepjedjclkaa

/-
  Possibly: WHAT IT HANDS BACK. Conditions: none.
-/
namespace Go.Proofs.Ytdkmepjedjclkaa
open Go.AM
open Go.Proofs.Try (prog)
set_option linter.all false
set_option maxRecDepth 100000
set_option maxHeartbeats 4000000
def inE (E : Ents) (c : List Int) : Bool := (lkL E c).isSome
inductive PosRes (D : List Int) (N : List Note) (L : List (List Int)) : AV → Int → Prop where
  | bad (h : ¬ ValidS D N) : PosRes D N L .nils 1
  | long (v : ValidS D N) (h : 2500 < L.length) : PosRes D N L .nils 3
  | form (v : ValidS D N) (h : L.length ≤ 2500) (h2 : L.all (cutB D) = false) : PosRes D N L .nils 2
  | none (v : ValidS D N) (h : L.length ≤ 2500) (h2 : L.all (cutB D) = true) (e : (cutsL D N).find? (fun c => decide (c ∈ L)) = none) : PosRes D N L .nils 5
  | ok {x : AV} {c : List Int} (v : ValidS D N) (h : L.length ≤ 2500) (h2 : L.all (cutB D) = true) (e : (cutsL D N).find? (fun c => decide (c ∈ L)) = some c) (i : IsInts x c) : PosRes D N L x 0
end Go.Proofs.Ytdkmepjedjclkaa

/-
  BODIES OF FUNCTIONS OF THE PROGRAM AS SMALL OPERATIONS (written by gen.py; checked by the kernel against the program). Conditions: none.
-/
namespace Go.Proofs.Ytdkmepjedjclkaa
open Go.AM
open Go.Proofs.Try (prog)
set_option maxRecDepth 100000
set_option linter.all false
namespace watch_story_next
noncomputable section
variable (K : List Item) (s : St)
def b : Code := (Try.f73.body).getD .skip
theorem hf : prog.funcs[73]? = some Try.f73 := by kernel_rfl
def r0 := findReg b 0
def r1 := findReg b 1
def r2 := findReg b 2
def k0 := findBlk b 0
def l0 := loopOf k0
def L0 (x0 x3 x5 x6 : AV) (m : Mem) (K : List Item) : Option Res := den prog ann 73 (.code l0 :: .inLoop l0 :: .inBlock 0 :: K) ⟨[(0, x0), (3, x3), (5, x5), (6, x6)], 43, m⟩
def r3 := findReg b 3
def i0 := findCond b 0
def i0t := thenOf i0
def i0e := elseOf i0
def k1 := findBlk b 1
def r5 := findReg b 5
def r6 := findReg b 6
def r7 := findReg b 7
def i1 := findCond b 1
def i1t := thenOf i1
def i1e := elseOf i1
def r8 := findReg b 8
def r4 := findReg b 4
def r9 := findReg b 9
theorem b_eq : den prog ann 73 (.code b :: K) s = den prog ann 73 (.code r0 :: .code r1 :: .code r2 :: .code k0 :: .code r9 :: .code .ret :: K) s := den_flat hf (l := [r0, r1, r2, k0, r9, .ret]) (by kernel_rfl) K s
theorem r0_eq : den prog ann 73 (.code r0 :: K) s = mreg prog ann 73 none [] none [] [qA 3 frozenPtr 1,qF 4 fun s => some (.nils)] K s := (den_reg hf _ K s).trans (by kernel_rfl)
theorem r1_eq : den prog ann 73 (.code r1 :: K) s = mreg prog ann 73 none [] none [] [qF 5 fun s => some (.nils)] K s := (den_reg hf _ K s).trans (by kernel_rfl)
theorem r2_eq : den prog ann 73 (.code r2 :: K) s = mreg prog ann 73 none [] none [] [qC 8 0,qA 9 nilA 8,qA 10 (fieldA 0) 9,qA 11 (loadF false 1) 10,qF 12 fun s => binA prog .sub 3 (s.get 11) (.int .i64 1),qC 6 12] K s := (den_reg hf _ K s).trans (by kernel_rfl)
theorem k0_eq (K : List Item) (t : List (Nat × AV)) (m : Mem) : den prog ann 73 (.code k0 :: K) ⟨t, 43, m⟩ = L0 (get t 0) (get t 3) (get t 5) (get t 6) m K := den_loop_enter hf (b := l0) (id := 3) (l := [0, 3, 5, 6]) (by kernel_rfl) (by kernel_rfl) (by kernel_rfl) K _
theorem l0_eq (K : List Item) (t : List (Nat × AV)) (m : Mem) : den prog ann 73 (.inLoop l0 :: .inBlock 0 :: K) ⟨t, 43, m⟩ = L0 (get t 0) (get t 3) (get t 5) (get t 6) m K := den_loop_again hf (id := 3) (l := [0, 3, 5, 6]) (by kernel_rfl) (by kernel_rfl) (.inBlock 0 :: K) _
theorem L0_eq (x0 x3 x5 x6 : AV) (m : Mem) (K : List Item) : L0 x0 x3 x5 x6 m K = den prog ann 73 (.code r3 :: .code i0 :: .code k1 :: .code r4 :: .inLoop l0 :: .inBlock 0 :: K) ⟨[(0, x0), (3, x3), (5, x5), (6, x6)], 43, m⟩ := den_flat hf (l := [r3, i0, k1, r4]) (by kernel_rfl) _ _
theorem r3_eq : den prog ann 73 (.code r3 :: K) s = mreg prog ann 73 (some [0, 3, 5, 6]) [] none [] [qC 13 6,qF 14 fun s => binA prog .geq 3 (s.get 13) (.int .i64 0)] K s := (den_reg hf _ K s).trans (by kernel_rfl)
theorem i0_eq : den prog ann 73 (.code i0 :: K) s = ifV prog ann 73 14 i0t i0e K s (s.get 14) := den_if hf (by kernel_rfl) K s
theorem i0t_eq : den prog ann 73 (.code i0t :: K) s = den prog ann 73 (K) s := den_flat hf (l := []) (by kernel_rfl) K s
theorem i0e_eq : den prog ann 73 (.code i0e :: K) s = den prog ann 73 (.code (.exit 0) :: K) s := den_flat hf (l := [(.exit 0)]) (by kernel_rfl) K s
theorem k1_eq : den prog ann 73 (.code k1 :: K) s = den prog ann 73 (.code r5 :: .code r6 :: .code r7 :: .code i1 :: .inBlock 1 :: K) s := den_blk hf (b := blkOf k1) (l := [r5, r6, r7, i1]) (by kernel_rfl) (by kernel_rfl) K s
theorem r5_eq : den prog ann 73 (.code r5 :: K) s = mreg prog ann 73 none [] none [] [qA 17 (loadF true 4) 3,⟨some 7, none, .w false none fun s => newPtr s.m [.int .i64 0, .int .i64 0, .int .i64 0, .int .i64 0]⟩,⟨none, none, .w false none fun s => stA true 4 s.m (s.get 7) (s.get 17)⟩] K s := (den_reg hf _ K s).trans (by kernel_rfl)
theorem r6_eq : den prog ann 73 (.code r6 :: K) s = mreg prog ann 73 none [] none [] [qC 18 6,qB 19 (idxArr 4 1) 7 18,qF 20 fun s => loadA false 1 s.m (s.get 19),qF 21 fun s => binA prog .add 3 (s.get 20) (.int .i64 1),qB 22 (idxArr 4 1) 7 18,⟨none, none, .w false none fun s => stA false 1 s.m (s.get 22) (s.get 21)⟩] K s := (den_reg hf _ K s).trans (by kernel_rfl)
theorem r7_draw : drawOk (fun g => (ann g).pure) (modeOf (ann 73) (idOf r7)) (frzOf (ann 73) (idOf r7)) (opsOf r7) = true := drawOk_of (an := [0, 1, 3, 0, 0, 8, 40, 120, 248, 511, 1023, 2047, 2047, 8191, 16383]) (by kernel_rfl) (by kernel_rfl)
theorem r7_eq : den prog ann 73 (.code r7 :: K) s = mreg prog ann 73 none [] (some 15) [] [qC 23 6,qB 24 (idxArr 4 1) 7 23,qF 25 fun s => loadA false 1 s.m (s.get 24),qC 26 0,qC 27 6,qA 28 nilA 26,qA 29 (fieldA 1) 28,qB 30 (idxArr 4 1) 29 27,qA 31 (loadF false 1) 30,qB 32 (binA prog .leq 3) 25 31,qC 33 32,⟨some 34, some (33, true), .v fun s => some (s.get 0)⟩,⟨some 35, some (33, true), .v fun s => loadA true 4 s.m (s.get 7)⟩,⟨some 36, some (33, true), .c 0 (fun s => (.fn 72 [] [])) fun s => [(s.get 34), (s.get 35)]⟩,qF 37 fun s => pickA (s.get 33) (s.get 36) (.bool false)] K s := (den_regD hf r7_draw K s).trans (by kernel_rfl)
theorem i1_eq : den prog ann 73 (.code i1 :: K) s = ifV prog ann 73 37 i1t i1e K s (s.get 37) := den_if hf (by kernel_rfl) K s
theorem i1t_eq : den prog ann 73 (.code i1t :: K) s = den prog ann 73 (.code r8 :: K) s := den_flat hf (l := [r8]) (by kernel_rfl) K s
theorem r8_eq : den prog ann 73 (.code r8 :: K) s = mreg prog ann 73 none [] none [] [qC 38 5,qF 39 fun s => loadA true 4 s.m (s.get 7),qF 40 fun s => bslF 1 (bslA 4 1 [.int .i64 0, .int .i64 0, .int .i64 0, .int .i64 0] [(0, (s.get 39))]),⟨some 41, none, .w false none fun s => appendA 4 32 s.m (s.get 38) (s.get 40)⟩,qC 5 41] K s := (den_reg hf _ K s).trans (by kernel_rfl)
theorem i1e_eq : den prog ann 73 (.code i1e :: K) s = den prog ann 73 (K) s := den_flat hf (l := []) (by kernel_rfl) K s
theorem r4_eq : den prog ann 73 (.code r4 :: K) s = mreg prog ann 73 (some [0, 3, 5, 6]) [] none [] [qC 15 6,qF 16 fun s => binA prog .sub 3 (s.get 15) (.int .i64 1),qC 6 16] K s := (den_reg hf _ K s).trans (by kernel_rfl)
theorem r9_eq : den prog ann 73 (.code r9 :: K) s = mreg prog ann 73 (some [5]) [] none [] [qC 42 5,qC 4 42] K s := (den_reg hf _ K s).trans (by kernel_rfl)
theorem ret_eq : den prog ann 73 (.code .ret :: K) s = finM true [fun s => some (s.get 4)] s := (den_ret hf K s).trans (by kernel_rfl)
theorem nil_eq (s : St) : den prog ann 73 [] s = finM true [fun s => some (s.get 4)] s := (den_nil hf s).trans (by kernel_rfl)
theorem inBlock_eq (id : Nat) (K : List Item) (s : St) : den prog ann 73 (.inBlock id :: K) s = den prog ann 73 K s := den_inBlock hf id K s
theorem exit_eq (id : Nat) (K : List Item) (s : St) : den prog ann 73 (.code (.exit id) :: K) s = exitV prog ann 73 (exitTo id K) s := den_exitV hf id K s
theorem call_eq (v0 v1 : AV) (m : Mem) (h : closedL [v0, v1] = true) : denC prog ann 73 [v0, v1] m = (den prog ann 73 [.code b] ⟨[(0, v0), (1, v1)], 43, Mem.empty⟩).bind fun r => some (r.1, m) := (denC_pure hf (b := b) (by kernel_rfl) (by kernel_rfl) (by kernel_rfl) h m).trans (by kernel_rfl)
theorem pure_eq : (ann 73).pure = true := by kernel_rfl
attribute [simp] b_eq r0_eq r1_eq r2_eq k0_eq l0_eq r3_eq i0_eq i0t_eq i0e_eq k1_eq r5_eq r6_eq r7_eq i1_eq i1t_eq r8_eq i1e_eq r4_eq r9_eq ret_eq nil_eq inBlock_eq exit_eq pure_eq
end
end watch_story_next
namespace r09_name
noncomputable section
variable (K : List Item) (s : St)
def b : Code := (Try.f79.body).getD .skip
theorem hf : prog.funcs[79]? = some Try.f79 := by kernel_rfl
def r0 := findReg b 0
def r1 := findReg b 1
def r2 := findReg b 2
def k0 := findBlk b 0
def l0 := loopOf k0
def L0 (x0 x1 x5 x6 : AV) (m : Mem) (K : List Item) : Option Res := den prog ann 79 (.code l0 :: .inLoop l0 :: .inBlock 0 :: K) ⟨[(0, x0), (1, x1), (5, x5), (6, x6)], 31, m⟩
def r3 := findReg b 3
def i0 := findCond b 0
def i0t := thenOf i0
def i0e := elseOf i0
def k1 := findBlk b 1
def r5 := findReg b 5
def r6 := findReg b 6
def i1 := findCond b 1
def i1t := thenOf i1
def i1e := elseOf i1
def r7 := findReg b 7
def r8 := findReg b 8
def r4 := findReg b 4
def r9 := findReg b 9
theorem b_eq : den prog ann 79 (.code b :: K) s = den prog ann 79 (.code r0 :: .code r1 :: .code r2 :: .code k0 :: .code r9 :: .code .ret :: K) s := den_flat hf (l := [r0, r1, r2, k0, r9, .ret]) (by kernel_rfl) K s
theorem r0_eq : den prog ann 79 (.code r0 :: K) s = mreg prog ann 79 none [] none [] [qF 4 fun s => some (.str [])] K s := (den_reg hf _ K s).trans (by kernel_rfl)
theorem r1_eq : den prog ann 79 (.code r1 :: K) s = mreg prog ann 79 none [] none [] [⟨some 8, none, .w false none fun s => bslM s.m 0 (bslA 1 0 [.int .u8 0] [])⟩,qC 5 8] K s := (den_reg hf _ K s).trans (by kernel_rfl)
theorem r2_eq : den prog ann 79 (.code r2 :: K) s = mreg prog ann 79 none [] none [] [qF 6 fun s => some (.int .i64 0)] K s := (den_reg hf _ K s).trans (by kernel_rfl)
theorem k0_eq (K : List Item) (t : List (Nat × AV)) (m : Mem) : den prog ann 79 (.code k0 :: K) ⟨t, 31, m⟩ = L0 (get t 0) (get t 1) (get t 5) (get t 6) m K := den_loop_enter hf (b := l0) (id := 3) (l := [0, 1, 5, 6]) (by kernel_rfl) (by kernel_rfl) (by kernel_rfl) K _
theorem l0_eq (K : List Item) (t : List (Nat × AV)) (m : Mem) : den prog ann 79 (.inLoop l0 :: .inBlock 0 :: K) ⟨t, 31, m⟩ = L0 (get t 0) (get t 1) (get t 5) (get t 6) m K := den_loop_again hf (id := 3) (l := [0, 1, 5, 6]) (by kernel_rfl) (by kernel_rfl) (.inBlock 0 :: K) _
theorem L0_eq (x0 x1 x5 x6 : AV) (m : Mem) (K : List Item) : L0 x0 x1 x5 x6 m K = den prog ann 79 (.code r3 :: .code i0 :: .code k1 :: .code r4 :: .inLoop l0 :: .inBlock 0 :: K) ⟨[(0, x0), (1, x1), (5, x5), (6, x6)], 31, m⟩ := den_flat hf (l := [r3, i0, k1, r4]) (by kernel_rfl) _ _
theorem r3_eq : den prog ann 79 (.code r3 :: K) s = mreg prog ann 79 (some [0, 1, 5, 6]) [] none [] [qC 9 6,qC 10 0,qA 11 lenSl 10,qB 12 (binA prog .lss 3) 9 11] K s := (den_reg hf _ K s).trans (by kernel_rfl)
theorem i0_eq : den prog ann 79 (.code i0 :: K) s = ifV prog ann 79 12 i0t i0e K s (s.get 12) := den_if hf (by kernel_rfl) K s
theorem i0t_eq : den prog ann 79 (.code i0t :: K) s = den prog ann 79 (K) s := den_flat hf (l := []) (by kernel_rfl) K s
theorem i0e_eq : den prog ann 79 (.code i0e :: K) s = den prog ann 79 (.code (.exit 0) :: K) s := den_flat hf (l := [(.exit 0)]) (by kernel_rfl) K s
theorem k1_eq : den prog ann 79 (.code k1 :: K) s = den prog ann 79 (.code r5 :: .code r6 :: .code i1 :: .code r8 :: .inBlock 1 :: K) s := den_blk hf (b := blkOf k1) (l := [r5, r6, i1, r8]) (by kernel_rfl) (by kernel_rfl) K s
theorem r5_eq : den prog ann 79 (.code r5 :: K) s = mreg prog ann 79 none [] none [] [qC 15 0,qC 16 6,qB 17 (idxSl 1) 15 16,qA 18 (loadF false 1) 17,qC 7 18] K s := (den_reg hf _ K s).trans (by kernel_rfl)
theorem r6_eq : den prog ann 79 (.code r6 :: K) s = mreg prog ann 79 none [] none [] [qC 19 6,qC 20 1,qB 21 (binA prog .eql 3) 19 20] K s := (den_reg hf _ K s).trans (by kernel_rfl)
theorem i1_eq : den prog ann 79 (.code i1 :: K) s = ifV prog ann 79 21 i1t i1e K s (s.get 21) := den_if hf (by kernel_rfl) K s
theorem i1t_eq : den prog ann 79 (.code i1t :: K) s = den prog ann 79 (.code r7 :: K) s := den_flat hf (l := [r7]) (by kernel_rfl) K s
theorem r7_eq : den prog ann 79 (.code r7 :: K) s = mreg prog ann 79 none [] none [] [qC 22 7,qF 23 fun s => binA prog .sub 3 (s.get 22) (.int .i64 1),qC 7 23] K s := (den_reg hf _ K s).trans (by kernel_rfl)
theorem i1e_eq : den prog ann 79 (.code i1e :: K) s = den prog ann 79 (K) s := den_flat hf (l := []) (by kernel_rfl) K s
theorem r8_eq : den prog ann 79 (.code r8 :: K) s = mreg prog ann 79 (some [0, 1, 5, 6, 7]) [] none [] [qC 24 5,qC 25 7,qA 26 (convInt .u8) 25,qF 27 fun s => bslF 1 (bslA 1 1 [.int .u8 0] [(0, (s.get 26))]),⟨some 28, none, .w false none fun s => appendA 1 1 s.m (s.get 24) (s.get 27)⟩,qC 5 28] K s := (den_reg hf _ K s).trans (by kernel_rfl)
theorem r4_eq : den prog ann 79 (.code r4 :: K) s = mreg prog ann 79 (some [0, 1, 5, 6]) [] none [] [qC 13 6,qF 14 fun s => binA prog .add 3 (s.get 13) (.int .i64 1),qC 6 14] K s := (den_reg hf _ K s).trans (by kernel_rfl)
theorem r9_eq : den prog ann 79 (.code r9 :: K) s = mreg prog ann 79 (some [5]) [] none [] [qC 29 5,qF 30 fun s => convStr s.m (s.get 29),qC 4 30] K s := (den_reg hf _ K s).trans (by kernel_rfl)
theorem ret_eq : den prog ann 79 (.code .ret :: K) s = finM true [fun s => some (s.get 4)] s := (den_ret hf K s).trans (by kernel_rfl)
theorem nil_eq (s : St) : den prog ann 79 [] s = finM true [fun s => some (s.get 4)] s := (den_nil hf s).trans (by kernel_rfl)
theorem inBlock_eq (id : Nat) (K : List Item) (s : St) : den prog ann 79 (.inBlock id :: K) s = den prog ann 79 K s := den_inBlock hf id K s
theorem exit_eq (id : Nat) (K : List Item) (s : St) : den prog ann 79 (.code (.exit id) :: K) s = exitV prog ann 79 (exitTo id K) s := den_exitV hf id K s
theorem call_eq (v0 v1 : AV) (m : Mem) (h : closedL [v0, v1] = true) : denC prog ann 79 [v0, v1] m = (den prog ann 79 [.code b] ⟨[(0, v0), (1, v1)], 31, Mem.empty⟩).bind fun r => some (r.1, m) := (denC_pure hf (b := b) (by kernel_rfl) (by kernel_rfl) (by kernel_rfl) h m).trans (by kernel_rfl)
theorem pure_eq : (ann 79).pure = true := by kernel_rfl
attribute [simp] b_eq r0_eq r1_eq r2_eq k0_eq l0_eq r3_eq i0_eq i0t_eq i0e_eq k1_eq r5_eq r6_eq i1_eq i1t_eq r7_eq i1e_eq r8_eq r4_eq r9_eq ret_eq nil_eq inBlock_eq exit_eq pure_eq
end
end r09_name
namespace r01_SameLists
noncomputable section
variable (K : List Item) (s : St)
def b : Code := (Try.f42.body).getD .skip
theorem hf : prog.funcs[42]? = some Try.f42 := by kernel_rfl
def r0 := findReg b 0
def r1 := findReg b 1
def i0 := findCond b 0
def i0t := thenOf i0
def i0e := elseOf i0
def r2 := findReg b 2
def r3 := findReg b 3
def k0 := findBlk b 0
def l0 := loopOf k0
def L0 (x0 x1 x5 : AV) (m : Mem) (K : List Item) : Option Res := den prog ann 42 (.code l0 :: .inLoop l0 :: .inBlock 0 :: K) ⟨[(0, x0), (1, x1), (5, x5)], 27, m⟩
def r4 := findReg b 4
def i1 := findCond b 1
def i1t := thenOf i1
def i1e := elseOf i1
def k1 := findBlk b 1
def r6 := findReg b 6
def i2 := findCond b 2
def i2t := thenOf i2
def i2e := elseOf i2
def r7 := findReg b 7
def r5 := findReg b 5
def r8 := findReg b 8
theorem b_eq : den prog ann 42 (.code b :: K) s = den prog ann 42 (.code r0 :: .code r1 :: .code i0 :: .code r3 :: .code k0 :: .code r8 :: .code .ret :: K) s := den_flat hf (l := [r0, r1, i0, r3, k0, r8, .ret]) (by kernel_rfl) K s
theorem r0_eq : den prog ann 42 (.code r0 :: K) s = mreg prog ann 42 none [] none [] [qF 4 fun s => some (.bool false)] K s := (den_reg hf _ K s).trans (by kernel_rfl)
theorem r1_eq : den prog ann 42 (.code r1 :: K) s = mreg prog ann 42 none [] none [] [qC 6 0,qA 7 lenSl 6,qC 8 1,qA 9 lenSl 8,qB 10 (binA prog .neq 3) 7 9] K s := (den_reg hf _ K s).trans (by kernel_rfl)
theorem i0_eq : den prog ann 42 (.code i0 :: K) s = ifV prog ann 42 10 i0t i0e K s (s.get 10) := den_if hf (by kernel_rfl) K s
theorem i0t_eq : den prog ann 42 (.code i0t :: K) s = den prog ann 42 (.code r2 :: .code .ret :: K) s := den_flat hf (l := [r2, .ret]) (by kernel_rfl) K s
theorem r2_eq : den prog ann 42 (.code r2 :: K) s = mreg prog ann 42 none [] none [] [qF 4 fun s => some (.bool false)] K s := (den_reg hf _ K s).trans (by kernel_rfl)
theorem i0e_eq : den prog ann 42 (.code i0e :: K) s = den prog ann 42 (K) s := den_flat hf (l := []) (by kernel_rfl) K s
theorem r3_eq : den prog ann 42 (.code r3 :: K) s = mreg prog ann 42 none [] none [] [qF 5 fun s => some (.int .i64 0)] K s := (den_reg hf _ K s).trans (by kernel_rfl)
theorem k0_eq (K : List Item) (t : List (Nat × AV)) (m : Mem) : den prog ann 42 (.code k0 :: K) ⟨t, 27, m⟩ = L0 (get t 0) (get t 1) (get t 5) m K := den_loop_enter hf (b := l0) (id := 4) (l := [0, 1, 5]) (by kernel_rfl) (by kernel_rfl) (by kernel_rfl) K _
theorem l0_eq (K : List Item) (t : List (Nat × AV)) (m : Mem) : den prog ann 42 (.inLoop l0 :: .inBlock 0 :: K) ⟨t, 27, m⟩ = L0 (get t 0) (get t 1) (get t 5) m K := den_loop_again hf (id := 4) (l := [0, 1, 5]) (by kernel_rfl) (by kernel_rfl) (.inBlock 0 :: K) _
theorem L0_eq (x0 x1 x5 : AV) (m : Mem) (K : List Item) : L0 x0 x1 x5 m K = den prog ann 42 (.code r4 :: .code i1 :: .code k1 :: .code r5 :: .inLoop l0 :: .inBlock 0 :: K) ⟨[(0, x0), (1, x1), (5, x5)], 27, m⟩ := den_flat hf (l := [r4, i1, k1, r5]) (by kernel_rfl) _ _
theorem r4_eq : den prog ann 42 (.code r4 :: K) s = mreg prog ann 42 (some [0, 1, 5]) [] none [] [qC 11 5,qC 12 0,qA 13 lenSl 12,qB 14 (binA prog .lss 3) 11 13] K s := (den_reg hf _ K s).trans (by kernel_rfl)
theorem i1_eq : den prog ann 42 (.code i1 :: K) s = ifV prog ann 42 14 i1t i1e K s (s.get 14) := den_if hf (by kernel_rfl) K s
theorem i1t_eq : den prog ann 42 (.code i1t :: K) s = den prog ann 42 (K) s := den_flat hf (l := []) (by kernel_rfl) K s
theorem i1e_eq : den prog ann 42 (.code i1e :: K) s = den prog ann 42 (.code (.exit 0) :: K) s := den_flat hf (l := [(.exit 0)]) (by kernel_rfl) K s
theorem k1_eq : den prog ann 42 (.code k1 :: K) s = den prog ann 42 (.code r6 :: .code i2 :: .inBlock 1 :: K) s := den_blk hf (b := blkOf k1) (l := [r6, i2]) (by kernel_rfl) (by kernel_rfl) K s
theorem r6_draw : drawOk (fun g => (ann g).pure) (modeOf (ann 42) (idOf r6)) (frzOf (ann 42) (idOf r6)) (opsOf r6) = true := drawOk_of (an := [0, 0, 3, 7, 0, 0, 48, 112, 255, 511]) (by kernel_rfl) (by kernel_rfl)
theorem r6_eq : den prog ann 42 (.code r6 :: K) s = mreg prog ann 42 none [] (some 10) [] [qC 17 0,qC 18 5,qB 19 (idxSl 1) 17 18,qA 20 (loadF false 1) 19,qC 21 1,qC 22 5,qB 23 (idxSl 1) 21 22,qA 24 (loadF false 1) 23,⟨some 25, none, .c 0 (fun s => (.fn 21 [] [])) fun s => [(s.get 20), (s.get 24)]⟩,qA 26 (unA .not) 25] K s := (den_regD hf r6_draw K s).trans (by kernel_rfl)
theorem i2_eq : den prog ann 42 (.code i2 :: K) s = ifV prog ann 42 26 i2t i2e K s (s.get 26) := den_if hf (by kernel_rfl) K s
theorem i2t_eq : den prog ann 42 (.code i2t :: K) s = den prog ann 42 (.code r7 :: .code .ret :: K) s := den_flat hf (l := [r7, .ret]) (by kernel_rfl) K s
theorem r7_eq : den prog ann 42 (.code r7 :: K) s = mreg prog ann 42 none [] none [] [qF 4 fun s => some (.bool false)] K s := (den_reg hf _ K s).trans (by kernel_rfl)
theorem i2e_eq : den prog ann 42 (.code i2e :: K) s = den prog ann 42 (K) s := den_flat hf (l := []) (by kernel_rfl) K s
theorem r5_eq : den prog ann 42 (.code r5 :: K) s = mreg prog ann 42 (some [0, 1, 5]) [] none [] [qC 15 5,qF 16 fun s => binA prog .add 3 (s.get 15) (.int .i64 1),qC 5 16] K s := (den_reg hf _ K s).trans (by kernel_rfl)
theorem r8_eq : den prog ann 42 (.code r8 :: K) s = mreg prog ann 42 (some []) [] none [] [qF 4 fun s => some (.bool true)] K s := (den_reg hf _ K s).trans (by kernel_rfl)
theorem ret_eq : den prog ann 42 (.code .ret :: K) s = finM true [fun s => some (s.get 4)] s := (den_ret hf K s).trans (by kernel_rfl)
theorem nil_eq (s : St) : den prog ann 42 [] s = finM true [fun s => some (s.get 4)] s := (den_nil hf s).trans (by kernel_rfl)
theorem inBlock_eq (id : Nat) (K : List Item) (s : St) : den prog ann 42 (.inBlock id :: K) s = den prog ann 42 K s := den_inBlock hf id K s
theorem exit_eq (id : Nat) (K : List Item) (s : St) : den prog ann 42 (.code (.exit id) :: K) s = exitV prog ann 42 (exitTo id K) s := den_exitV hf id K s
theorem call_eq (v0 v1 : AV) (m : Mem) (h : closedL [v0, v1] = true) : denC prog ann 42 [v0, v1] m = (den prog ann 42 [.code b] ⟨[(0, v0), (1, v1)], 27, Mem.empty⟩).bind fun r => some (r.1, m) := (denC_pure hf (b := b) (by kernel_rfl) (by kernel_rfl) (by kernel_rfl) h m).trans (by kernel_rfl)
theorem pure_eq : (ann 42).pure = true := by kernel_rfl
attribute [simp] b_eq r0_eq r1_eq i0_eq i0t_eq r2_eq i0e_eq r3_eq k0_eq l0_eq r4_eq i1_eq i1t_eq i1e_eq k1_eq r6_eq i2_eq i2t_eq r7_eq i2e_eq r5_eq r8_eq ret_eq nil_eq inBlock_eq exit_eq pure_eq
end
end r01_SameLists
end Go.Proofs.Ytdkmepjedjclkaa

/-
  Definitely (1): the cuts with one deed more. Conditions: none.
-/
namespace Go.Proofs.Ytdkmepjedjclkaa
open Go.AM
open Go.Proofs.Try (prog)
set_option linter.all false
set_option maxRecDepth 100000
set_option maxHeartbeats 4000000
def bump (c : List Int) (h : Nat) : List Int := c.set h (nth c h + 1)
theorem bump_len (c : List Int) (h : Nat) : (bump c h).length = c.length := by simp [bump]
theorem nth_bump {c : List Int} {h : Nat} (hh : h < c.length) (g : Nat) : nth (bump c h) g = if g = h then nth c h + 1 else nth c g := by
  rw [bump, nth_set]
  by_cases e : h = g
  · subst e; simp [hh]
  · have e' : ¬ g = h := fun x => e x.symm
    simp [e, e']
def stepOk (D4 : List Int) (K : List (List (List Int))) (n : Nat) (c : List Int) (h : Nat) : Bool := decide (nth c h + 1 ≤ nth D4 h) && decide (forthL K n (bump c h) = bump c h)
def nextR (D4 : List Int) (K : List (List (List Int))) (n : Nat) (c : List Int) : Nat → List (List Int)
  | 0 => []
  | k + 1 => (if stepOk D4 K n c k = true then [bump c k] else []) ++ nextR D4 K n c k
def nextV (acc : List (List Int)) : AV := if acc = [] then .nils else .fsl false acc.length (flatC ints acc)
theorem nextV_is (acc : List (List Int)) : IsSl ints (nextV acc) acc := by
  by_cases e : acc = []
  · exact .inl ⟨by rw [nextV, if_pos e], e⟩
  · exact .inr ⟨false, by rw [nextV, if_neg e]⟩
theorem next_loop {V : List AV} {n : Nat} {D4 : List Int} {K : List (List (List Int))} (hV : V.length = 4) (s : IsStory (.fptr (.int .i64 n :: (ints D4 ++ V))) n D4 K) {c : List Int} (hc : IsCut n D4 c) : ∀ (k : Nat) (acc : List (List Int)) (oid : Nat) (m : Mem), k ≤ n → Four acc → acc.length + k ≤ n → OutX m oid acc →
    watch_story_next.L0 (.fptr (.int .i64 n :: (ints D4 ++ V))) (.fptr (ints c)) (outX oid acc) (.int .i64 ((k : Int) - 1)) m [.code watch_story_next.r9, .code .ret] = some (nextV (acc ++ nextR D4 K n c k), Mem.empty) := by
  have hn4 := s.n4
  have hD4 := s.D4
  have hc4 := hc.len
  intro k
  induction k with
  | zero =>
    intro acc oid m h1 h2 h3 h4
    by_cases e : acc = []
    · subst e
      rw [watch_story_next.L0_eq]
      simp [outX, nextR, nextV]
      done
    · obtain ⟨a, b⟩ := h4 e
      have hl := flatC_len (f := ints) (k := 4) (l := acc) (fun x hx => by simp [h2 x hx])
      have htk : (flatC ints acc).take (acc.length * 4) = flatC ints acc := List.take_of_length_le (by omega)
      have hdp : ∀ d, mapO (deep m.h (d + 1)) (flatC ints acc) = some (flatC ints acc) := fun d => flatC_deep _ _ (fun a => by simp) _
      rw [watch_story_next.L0_eq]
      simp [outX, e, nextR, nextV, a, hl, htk, hdp]
      done
  | succ k ih =>
    intro acc oid m h1 h2 h3 h4
    have hk4 : k < 4 := by omega
    have e0 : ((k + 1 : Nat) : Int) - 1 = (k : Int) := by omega
    have hw : IntKind.wrap .i64 ((k : Int) - 1) = (k : Int) - 1 := wrap_id (by omega) (by omega)
    have hlo := hc.lo k
    have hhi := hc.hi k
    have hd6 := s.D6 k
    have hw2 : IntKind.wrap .i64 (nth c k + 1) = nth c k + 1 := wrap_id (by omega) (by omega)
    have hld : (ints D4 ++ V)[k]? = some (.int .i64 (nth D4 k)) := by rw [List.getElem?_append_left (by simp; omega), ints_nth (by omega)]
    have htc : (ints c).take 4 = ints c := List.take_of_length_le (by simp [hc4])
    have hd0 : (ints c).drop 4 = [] := List.drop_of_length_le (by simp [hc4])
    simp at htc hd0
    have hbl : (bump c k).length = 4 := by rw [bump_len, hc4]
    have hset : c.set k (nth c k + 1) = bump c k := rfl
    have htb : (ints (bump c k)).take 4 = ints (bump c k) := List.take_of_length_le (by simp [hbl])
    simp at htb
    have hgb : nth (bump c k) k = nth c k + 1 := by rw [nth_bump (by omega), if_pos rfl]
    have hgk : (ints (bump c k))[k]? = some (.int .i64 (nth c k + 1)) := by rw [ints_nth (by omega), hgb]
    have hga : (ints c)[k]? = some (.int .i64 (nth c k)) := ints_nth (by omega)
    have hnew : ∀ nx, m.nx ≤ nx → OutX ⟨upd m.h m.nx (some (.cells (ints (bump c k)))), nx + 1⟩ oid acc := fun nx hnx hn => by
      obtain ⟨a, b⟩ := h4 hn
      exact ⟨by simp [show (oid == m.nx) = false from beq_eq_false_iff_ne.2 (by omega), a], by show oid < nx + 1; omega⟩
    rw [e0, watch_story_next.L0_eq, nextR]
    by_cases q : nth c k + 1 ≤ nth D4 k
    · have hcut : IsCut n D4 (bump c k) := ⟨hbl, fun g => by rw [nth_bump (by omega)]; split; omega; exact hc.lo g, fun g => by
        rw [nth_bump (by omega)]; split
        · rename_i e; rw [e]; exact q
        · exact hc.hi g⟩
      have hcon := consistent_spec s hcut
      by_cases q2 : forthL K n (bump c k) = bump c k
      · rw [if_pos (by simp [stepOk, q, q2])]
        rw [decide_eq_true q2] at hcon
        have hacl := flatC_len (f := ints) (k := 4) (l := acc) (fun a ha => by simp [h2 a ha])
        have h2' : Four (acc ++ [bump c k]) := fun x hx => by
          rcases List.mem_append.1 hx with h | h
          · exact h2 x h
          · simp at h; rw [h]; exact hbl
        by_cases hn : acc = []
        · subst hn
          have hst := ih [bump c k] (m.nx + 1 + 15) ⟨upd (upd m.h m.nx (some (.cells (ints (bump c k))))) (m.nx + 1 + 15) (some (.cells (ints (bump c k)))), m.nx + 1 + 15 + 1⟩ (by omega) h2' (by simp; omega) (fun _ => ⟨by simp [flatC_one], by show m.nx + 1 + 15 < m.nx + 1 + 15 + 1; omega⟩)
          have e3 : outX (m.nx + 1 + 15) [bump c k] = .sl (m.nx + 1 + 15) 4 0 1 4 := by simp [outX]
          rw [e3] at hst
          rw [List.nil_append, ← hst]
          simp [hc4, htc, hd0, hk4, hga, hw2, hset, hgk, hgb, htb, hbl, hld, q, hcon, hw, outX]
          done
        · obtain ⟨a, b⟩ := h4 hn
          have e1 : (oid == m.nx) = false := beq_eq_false_iff_ne.2 (by omega)
          have e2 : (m.nx == oid) = false := beq_eq_false_iff_ne.2 (by omega)
          have hst := ih (acc ++ [bump c k]) oid ⟨upd (upd m.h m.nx (some (.cells (ints (bump c k))))) oid (some (.cells (flatC ints acc ++ ints (bump c k)))), m.nx + 1 + 15⟩ (by omega) h2' (by simp; omega) (fun _ => ⟨by simp [flatC_append, flatC_one], by show oid < m.nx + 1 + 15; omega⟩)
          have e3 : outX oid (acc ++ [bump c k]) = .sl oid 4 0 (acc.length + 1) (acc.length * 4 + 4) := by simp [outX, Nat.add_mul]
          have e4 : outX oid acc = .sl oid 4 0 acc.length (acc.length * 4) := by simp [outX, hn]
          rw [e3] at hst
          rw [← List.append_assoc, ← hst, e4]
          simp [hc4, htc, hd0, hk4, hga, hw2, hset, hgk, hgb, htb, hbl, hld, q, hcon, hw, e1, e2, a, hacl, show acc.length + 1 ≤ 4611686018427387904 by omega, show acc.length ≤ 4611686018427387903 by omega, show (acc.length + 1) * 32 ≤ 70368744177664 by omega]
          done
      · rw [if_neg (by simp [stepOk, q2])]
        rw [decide_eq_false q2] at hcon
        have hst := ih acc oid ⟨upd m.h m.nx (some (.cells (ints (bump c k)))), m.nx + 1 + 15⟩ (by omega) h2 (by omega) (hnew (m.nx + 15) (by omega))
        rw [List.nil_append, ← hst]
        simp [hc4, htc, hd0, hk4, hga, hw2, hset, hgk, hgb, htb, hbl, hld, q, hcon, hw]
        done
    · rw [if_neg (by simp [stepOk, q])]
      have hst := ih acc oid ⟨upd m.h m.nx (some (.cells (ints (bump c k)))), m.nx + 1 + 15⟩ (by omega) h2 (by omega) (hnew (m.nx + 15) (by omega))
      rw [List.nil_append, ← hst]
      simp [hc4, htc, hd0, hk4, hga, hw2, hset, hgk, hgb, htb, hbl, hld, q, hw]
      done
theorem next_spec {sv : AV} {n : Nat} {D4 : List Int} {K : List (List (List Int))} (s : IsStory sv n D4 K) {c : List Int} (hc : IsCut n D4 c) (m : Mem) : denC prog ann 73 [sv, .agg (ints c)] m = some (nextV (nextR D4 K n c n), m) := by
  have hn4 := s.n4
  obtain ⟨V, e, hV, hS⟩ := s.V
  subst e
  have hw : IntKind.wrap .i64 ((n : Int) - 1) = (n : Int) - 1 := wrap_id (by omega) (by omega)
  have lp := next_loop hV s hc n [] 0 Mem.empty (Nat.le_refl _) (fun c hc => by cases hc) (by simp) (fun h => absurd rfl h)
  rw [show outX 0 [] = .nils by simp [outX], List.nil_append] at lp
  rw [watch_story_next.call_eq _ _ _ (by simp)]
  simp [hw, lp]
end Go.Proofs.Ytdkmepjedjclkaa

/-
  Definitely (2): courses that avoid a set, as a plain law. Conditions: none.
-/
namespace Go.Proofs.Ytdkmepjedjclkaa
open Go.AM
open Go.Proofs.Try (prog)
set_option linter.all false
set_option maxRecDepth 100000
inductive Can (D : List Int) (N : List Note) (S : List (List Int)) : List Int → Prop where
  | last (h : D ∈ cutsL D N) (h2 : D ∉ S) : Can D N S D
  | step {c : List Int} {h : Nat} (hc : c ∈ cutsL D N) (h2 : c ∉ S) (hh : h < D.length) (r : Can D N S (bump c h)) : Can D N S c
inductive Path (D : List Int) (N : List Note) (S : List (List Int)) : List Int → List (List Int) → Prop where
  | last : Path D N S D [D]
  | step {c : List Int} {h : Nat} {l : List (List Int)} (hc : c ≠ D) (hh : h < D.length) (r : Can D N S (bump c h)) (ng : ∀ g, h < g → g < D.length → ¬ Can D N S (bump c g)) (p : Path D N S (bump c h) l) : Path D N S c (c :: l)
section
variable {D : List Int} {N : List Note} {S : List (List Int)}
theorem Can.mem {c : List Int} (h : Can D N S c) : c ∈ cutsL D N := by cases h <;> assumption
theorem Can.out {c : List Int} (h : Can D N S c) : c ∉ S := by cases h <;> assumption
theorem Can.on {c : List Int} (h : Can D N S c) (hc : c ≠ D) : ∃ h, h < D.length ∧ Can D N S (bump c h) := by
  cases h with
  | last _ _ => exact absurd rfl hc
  | @step _ h _ _ hh r => exact ⟨h, hh, r⟩
theorem Path.uniq {c : List Int} {l l' : List (List Int)} (p : Path D N S c l) (q : Path D N S c l') : l = l' := by
  induction p generalizing l' with
  | last => cases q with
    | last => rfl
    | step hc => exact absurd rfl hc
  | @step c h l hc hh r ng p ih =>
    cases q with
    | last => exact absurd rfl hc
    | @step _ h' l' _ hh' r' ng' p' =>
      rcases Nat.lt_trichotomy h h' with e | e | e
      · exact absurd r' (ng h' e hh')
      · subst e; rw [ih p']
      · exact absurd r (ng' h e hh)
theorem Path.ne {c : List Int} {l : List (List Int)} (p : Path D N S c l) : l ≠ [] := by cases p <;> simp
theorem Path.row {c : List Int} {l : List (List Int)} (p : Path D N S c l) (hc : c.length = D.length) : ∀ x ∈ l, x.length = D.length := by
  induction p with
  | last => intro x hx; simp at hx; rw [hx]
  | step _ _ _ _ _ ih =>
    intro x hx
    rcases List.mem_cons.1 hx with rfl | hx
    · exact hc
    · exact ih (by rw [bump_len]; exact hc) x hx
theorem sum_bump {c : List Int} {h : Nat} (hh : h < c.length) : (bump c h).sum = c.sum + 1 := by
  have := sum_set c h (nth c h + 1) hh
  rw [bump]; omega
theorem Can.sum {c : List Int} (h : Can D N S c) (L : Lims D N) : c.sum ≤ D.sum := by
  induction h with
  | last => exact Int.le_refl _
  | @step c h hc _ hh _ ih =>
    have := sum_bump (c := c) (h := h) (by rw [((mem_cuts L).1 hc).1.len]; exact hh)
    omega
theorem bump_take {c : List Int} {n h : Nat} (hh : h < n) (hl : n ≤ c.length) : (bump c h).take n = bump (c.take n) h := by
  refine ext_nth (by simp [bump]) fun g => ?_
  rw [nth_bump (by simp; omega), nth_take hh]
  rcases Nat.lt_or_ge g n with hg | hg
  · rw [nth_take hg, nth_bump (by omega), nth_take hg]
  · have : ¬ g = h := by omega
    rw [take_out hg, if_neg this, take_out hg]
theorem cut_of_is {c : List Int} (h4 : D.length ≤ 4) (hc : IsCut D.length (pad D) c) : CutL D (c.take D.length) := by
  have hl := hc.len
  refine ⟨by simp; omega, fun h => ?_, fun h => ?_⟩
  · rcases Nat.lt_or_ge h D.length with hh | hh
    · rw [nth_take hh]; exact hc.lo h
    · rw [take_out hh]; exact Int.le_refl _
  · rcases Nat.lt_or_ge h D.length with hh | hh
    · rw [nth_take hh]; have := hc.hi h; rw [nth_pad] at this; exact this
    · rw [take_out hh, nth_out hh]; exact Int.le_refl _
theorem bump_is {c : List Int} (hc : IsCut D.length (pad D) c) {h : Nat} (hh : h < 4) (q : nth c h + 1 ≤ nth (pad D) h) : IsCut D.length (pad D) (bump c h) := by
  have hl := hc.len
  refine ⟨by rw [bump_len, hl], fun g => ?_, fun g => ?_⟩
  · rw [nth_bump (by omega)]; split
    · have := hc.lo h; omega
    · exact hc.lo g
  · rw [nth_bump (by omega)]; split
    · rename_i e; rw [e]; exact q
    · exact hc.hi g
theorem stepOk_iff {K : List (List (List Int))} (k : Clocks D N K) {c : List Int} (hc : IsCut D.length (pad D) c) {h : Nat} (hh : h < D.length) : stepOk (pad D) K D.length c h = true ↔ bump (c.take D.length) h ∈ cutsL D N := by
  have h4 := k.P.L.n4
  have hl := hc.len
  simp only [stepOk, Bool.and_eq_true, decide_eq_true_eq]
  constructor
  · rintro ⟨q1, q2⟩
    have hb := bump_is hc (by omega) q1
    rw [← bump_take hh (by omega)]
    exact (mem_cuts k.P.L).2 ⟨cut_of_is h4 hb, (in_iff k hb).1 q2⟩
  · intro hm
    obtain ⟨a, b⟩ := (mem_cuts k.P.L).1 hm
    have q1 : nth c h + 1 ≤ nth (pad D) h := by
      have := a.hi h
      rw [nth_bump (by simp; omega), if_pos rfl, nth_take hh] at this
      rw [nth_pad]; exact this
    have hb := bump_is hc (by omega) q1
    refine ⟨q1, (in_iff k hb).2 ?_⟩
    rw [bump_take hh (by omega)]; exact b
end
end Go.Proofs.Ytdkmepjedjclkaa

/-
  Definitely (3): the search for a course. Conditions: none.
-/
namespace Go.Proofs.Ytdkmepjedjclkaa
open Go.AM
open Go.Proofs.Try (prog)
set_option linter.all false
set_option maxRecDepth 100000
set_option maxHeartbeats 4000000
def crsV (E : Ents) (id cid : Nat) (sv : AV) : AV := .fn 77 [] [.fptr [mapV E], .sptr [.map id], .fptr [sv], .ptr cid 0 1]
structure CInv (D : List Int) (N : List Note) (S : List (List Int)) (m : Mem) (E : Ents) (id cid : Nat) (sv : AV) : Prop where
  mp : ∃ g L, m.h id = some (.map g (keysL L) (valsL L)) ∧ Keys4 L ∧ TrueE L ∧ ∀ c, IsCut D.length (pad D) c → inE L c = true → ¬ Can D N S (c.take D.length)
  fn : m.h cid = some (.cells [crsV E id cid sv])
  ne : id ≠ cid
  l1 : id < m.nx
  l2 : cid < m.nx
theorem CInv.more {D : List Int} {N : List Note} {S : List (List Int)} {m : Mem} {E : Ents} {id cid : Nat} {sv : AV} (c : CInv D N S m E id cid sv) {m' : Mem} (h : ∀ i, i < m.nx → m'.h i = m.h i) (hn : m.nx ≤ m'.nx) : CInv D N S m' E id cid sv := by
  obtain ⟨g, L, a, b⟩ := c.mp
  exact ⟨⟨g, L, by rw [h _ c.l1]; exact a, b⟩, by rw [h _ c.l2]; exact c.fn, c.ne, Nat.lt_of_lt_of_le c.l1 hn, Nat.lt_of_lt_of_le c.l2 hn⟩
section
variable {sv : AV} {D : List Int} {N : List Note} {S : List (List Int)} {K : List (List (List Int))} {E : Ents} {id cid : Nat}
end
end Go.Proofs.Ytdkmepjedjclkaa

/-
  Definitely (4): WHAT IT HANDS BACK. Conditions: none.
-/
namespace Go.Proofs.Ytdkmepjedjclkaa
open Go.AM
open Go.Proofs.Try (prog)
set_option linter.all false
set_option maxRecDepth 100000
set_option maxHeartbeats 4000000
section
variable {sv : AV} {D : List Int} {N : List Note} {S : List (List Int)} {K : List (List (List Int))} {E : Ents} {id cid : Nat}
end
inductive DefRes (D : List Int) (N : List Note) (L : List (List Int)) : AV → Int → Prop where
  | bad (h : ¬ ValidS D N) : DefRes D N L .nils 1
  | long (v : ValidS D N) (h : 2500 < L.length) : DefRes D N L .nils 3
  | form (v : ValidS D N) (h : L.length ≤ 2500) (h2 : L.all (cutB D) = false) : DefRes D N L .nils 2
  | none (v : ValidS D N) (h : L.length ≤ 2500) (h2 : L.all (cutB D) = true) (e : ¬ Can D N L (List.replicate D.length 0)) : DefRes D N L .nils 5
  | ok {ex : Bool} {l : List (List Int)} (v : ValidS D N) (h : L.length ≤ 2500) (h2 : L.all (cutB D) = true) (e : Can D N L (List.replicate D.length 0)) (p : Path D N L (List.replicate D.length 0) l) : DefRes D N L (.fsl ex l.length (flatC rowC l)) 0
end Go.Proofs.Ytdkmepjedjclkaa

/-
  THE REFERENCE's SMALL FUNCTIONS ON CUTS: has, name, more, SameLists. Conditions: none.
-/
namespace Go.Proofs.Ytdkmepjedjclkaa
open Go.AM
open Go.Proofs.Try (prog)
set_option linter.all false
set_option maxRecDepth 100000
set_option maxHeartbeats 4000000
def Short (L : List (List Int)) : Prop := ∀ i, i < L.length → (gth L i).length < 1000000
def u8w (v : Int) : Int := IntKind.wrap .u8 v
def nameS (l : List Int) : List UInt8 := l.map fun v => UInt8.ofNat (u8w v).toNat
def nameC (l : List Int) : List AV := l.map fun v => .int .u8 (u8w v)
theorem nameC_len (l : List Int) : (nameC l).length = l.length := by simp [nameC]
theorem nameC_bytes : ∀ l : List Int, bytesOf (nameC l) = some (nameS l)
  | [] => rfl
  | a :: l => by
    have := nameC_bytes l
    simp only [nameC, nameS] at this ⊢
    simp [bytesOf, this]
def lessL (l : List Int) (h : Int) : List Int := if h < 0 then l else l.set h.toNat (nth l h.toNat - 1)
theorem lessL_len (l : List Int) (h : Int) : (lessL l h).length = l.length := by unfold lessL; split <;> simp
theorem nth_less (l : List Int) (h : Int) {i : Nat} (hi : i < l.length) : nth (lessL l h) i = if (i : Int) = h then nth l i - 1 else nth l i := by
  unfold lessL
  by_cases q : h < 0
  · rw [if_pos q, if_neg (by omega)]
  · rw [if_neg q, nth_set]
    by_cases e : (i : Int) = h
    · subst e; simp [hi]
    · rw [if_neg e, if_neg (by omega)]
theorem name_loop {vl : AV} {l : List Int} {h : Int} (hv : IsInts vl l) (hl : l.length < 1000000) (hb : ∀ i, -1000000 ≤ nth l i ∧ nth l i < 1000000) : ∀ (k i : Nat) (m : Mem), i + k = l.length → m.h 0 = some (.cells (nameC ((lessL l h).take i))) →
    r09_name.L0 vl (.int .i64 h) (.sl 0 1 0 i i) (.int .i64 i) m [.code r09_name.r9, .code .ret] = some (.str (nameS (lessL l h)), Mem.empty) := by
  intro k
  induction k with
  | zero =>
    intro i m h1 hm
    have e : i = l.length := by omega
    have hll := lessL_len l h
    rw [e, List.take_of_length_le (by omega)] at hm
    have htk : (nameC (lessL l h)).take l.length = nameC (lessL l h) := List.take_of_length_le (by rw [nameC_len, hll]; exact Nat.le_refl _)
    rw [r09_name.L0_eq]
    simp [e, hv.len, convStr, hm, nameC_len, hll, htk, nameC_bytes]
    done
  | succ k ih =>
    intro i m h1 hm
    have hi : i < l.length := by omega
    have hll := lessL_len l h
    have hwr : IntKind.wrap .i64 ((i : Int) + 1) = (i : Int) + 1 := wrap_id (by omega) (by omega)
    obtain ⟨b0, b1⟩ := hb i
    have hw2 : IntKind.wrap .i64 (nth l i - 1) = nth l i - 1 := wrap_id (by omega) (by omega)
    have hcl : (nameC ((lessL l h).take i)).length = i := by rw [nameC_len]; simp; omega
    have hnl := nth_less l h hi
    have hst : ∀ v : Int, nth (lessL l h) i = v → r09_name.L0 vl (.int .i64 h) (.sl 0 1 0 (i + 1) (i + 1)) (.int .i64 ((i : Int) + 1)) ⟨upd m.h 0 (some (.cells (nameC ((lessL l h).take i) ++ [.int .u8 (u8w v)]))), m.nx⟩ [.code r09_name.r9, .code .ret] = some (.str (nameS (lessL l h)), Mem.empty) := fun v hv' => by
      have := ih (i + 1) ⟨upd m.h 0 (some (.cells (nameC ((lessL l h).take i) ++ [.int .u8 (u8w v)]))), m.nx⟩ (by omega) (by
        have e : (lessL l h)[i]? = some v := by rw [nth_eq (by omega), hv']
        rw [List.take_add_one, e]; simp [nameC])
      simpa only [Int.natCast_add, Int.cast_ofNat_Int] using this
    rw [r09_name.L0_eq]
    by_cases q : (i : Int) = h
    · rw [if_pos q] at hnl
      have := hst _ hnl
      subst q
      simp only [u8w] at this
      simp [hv.len, hi, hv.idx hi, ints_head hi, hm, hcl, hwr, hw2, this, show i ≤ 4611686018427387903 by omega, show i + 1 ≤ 70368744177664 by omega]
      done
    · rw [if_neg q] at hnl
      have := hst _ hnl
      simp only [u8w] at this
      simp [hv.len, hi, hv.idx hi, ints_head hi, q, hm, hcl, hwr, this, show i ≤ 4611686018427387903 by omega, show i + 1 ≤ 70368744177664 by omega]
      done
theorem name_spec {vl : AV} {l : List Int} (h : Int) (hv : IsInts vl l) (hl : l.length < 1000000) (hb : ∀ i, -1000000 ≤ nth l i ∧ nth l i < 1000000) (m : Mem) : denC prog ann 79 [vl, .int .i64 h] m = some (.str (nameS (lessL l h)), m) := by
  have := name_loop (h := h) hv hl hb l.length 0 ⟨upd Mem.empty.h 0 (some (.cells [])), 1⟩ (by omega) (by simp [nameC])
  simp only [Int.cast_ofNat_Int, Int.ofNat_zero] at this
  rw [r09_name.call_eq _ _ _ (by simp [hv.closed])]
  simp [this]
theorem lessL_no (l : List Int) : lessL l (-1) = l := by simp [lessL]
theorem u8w_id {v : Int} (h0 : 0 ≤ v) (h1 : v ≤ 255) : u8w v = v := by
  simp only [u8w, IntKind.wrap, IntKind.min, IntKind.max, IntKind.signed, IntKind.bits]
  simp
  omega
theorem nameS_inj : ∀ {a b : List Int}, a.length = b.length → (∀ i, 0 ≤ nth a i ∧ nth a i ≤ 255) → (∀ i, 0 ≤ nth b i ∧ nth b i ≤ 255) → nameS a = nameS b → a = b
  | [], [], _, _, _, _ => rfl
  | x :: a, y :: b, hl, ha, hb, h => by
    simp only [nameS, List.map_cons, List.cons.injEq] at h
    obtain ⟨h1, h2⟩ := h
    have hx : 0 ≤ x ∧ x ≤ 255 := ha 0
    have hy : 0 ≤ y ∧ y ≤ 255 := hb 0
    rw [u8w_id hx.1 hx.2, u8w_id hy.1 hy.2] at h1
    have e := congrArg UInt8.toNat h1
    simp only [UInt8.toNat_ofNat'] at e
    have : x = y := by omega
    rw [this, nameS_inj (a := a) (b := b) (by simpa using hl) (fun i => ha (i + 1)) (fun i => hb (i + 1)) h2]
  | [], _ :: _, hl, _, _, _ => by simp at hl
  | _ :: _, [], hl, _, _, _ => by simp at hl
theorem vec_nil {R : AV → List Int → Prop} : IsVec R .nils [] [] := ⟨rfl, (fun i hi => by simp at hi), rfl, .inl ⟨rfl, rfl⟩⟩
theorem sl_loop {va vb : AV} {ca cb : List AV} {A B : List (List Int)} (ha : IsVec IsInts va ca A) (hb : IsVec IsInts vb cb B) (wa : Short A) (wb : Short B) (hl : A.length = B.length) (hA : A.length < 1000000) : ∀ (k i : Nat) (m : Mem), i + k = A.length →
    r01_SameLists.L0 va vb (.int .i64 i) m [.code r01_SameLists.r8, .code .ret] = some (.bool (decide (A.drop i = B.drop i)), Mem.empty) := by
  intro k
  induction k with
  | zero =>
    intro i m h1
    have e : i = A.length := by omega
    rw [r01_SameLists.L0_eq, List.drop_of_length_le (by omega), List.drop_of_length_le (by omega)]
    simp [e, ha.len]
    done
  | succ k ih =>
    intro i m h1
    have hi : i < A.length := by omega
    have hiB : i < B.length := by omega
    have hwr : IntKind.wrap .i64 ((i : Int) + 1) = (i : Int) + 1 := wrap_id (by omega) (by omega)
    have x := ha.at hi
    have y := hb.at hiB
    have hsame := same_spec x y (by have := wa i hi; omega) (by have := wb i hiB; omega)
    have hst := fun m => ih (i + 1) m (by omega)
    simp only [Int.natCast_add, Int.cast_ofNat_Int] at hst
    rw [r01_SameLists.L0_eq, drop_gth hi, drop_gth hiB]
    by_cases q : gth A i = gth B i
    · rw [decide_eq_true q] at hsame
      have e : decide (gth A i :: A.drop (i + 1) = gth B i :: B.drop (i + 1)) = decide (A.drop (i + 1) = B.drop (i + 1)) := by rw [q]; simp
      rw [e]
      simp [ha.len, hi, ha.idx hi, ha.load hi, hb.idx hiB, hb.load hiB, x.closed, y.closed, hsame, hwr, hst]
      done
    · rw [decide_eq_false q] at hsame
      have e : decide (gth A i :: A.drop (i + 1) = gth B i :: B.drop (i + 1)) = false := decide_eq_false fun h => q (List.cons.inj h).1
      rw [e]
      simp [ha.len, hi, ha.idx hi, ha.load hi, hb.idx hiB, hb.load hiB, x.closed, y.closed, hsame]
      done
theorem sameL_spec {va vb : AV} {ca cb : List AV} {A B : List (List Int)} (ha : IsVec IsInts va ca A) (hb : IsVec IsInts vb cb B) (wa : Short A) (wb : Short B) (hA : A.length < 1000000) (m : Mem) : denC prog ann 42 [va, vb] m = some (.bool (decide (A = B)), m) := by
  rw [r01_SameLists.call_eq _ _ _ (by simp [ha.closed, hb.closed])]
  by_cases q : A.length = B.length
  · have := sl_loop ha hb wa wb q hA A.length 0 Mem.empty (by omega)
    simp only [Int.cast_ofNat_Int, Int.ofNat_zero, List.drop_zero] at this
    simp [ha.len, hb.len, q, this]
    done
  · have q' : ¬ (A.length : Int) = B.length := by omega
    rw [decide_eq_false (fun h => q (by rw [h]))]
    simp [ha.len, hb.len, q, q']
    done
end Go.Proofs.Ytdkmepjedjclkaa

/-
  BODIES OF FUNCTIONS OF THE PROGRAM AS SMALL OPERATIONS (written by gen.py; checked by the kernel against the program). Conditions: none.
-/
namespace Go.Proofs.Ytdkmepjedjclkaa
open Go.AM
open Go.Proofs.Try (prog)
set_option maxRecDepth 100000
set_option linter.all false
end Go.Proofs.Ytdkmepjedjclkaa

/-
  WatchLattice RETURNS TRUE. Conditions: none.
-/
namespace Go.Proofs.Ytdkmepjedjclkaa
open Go.AM
open Go.Proofs.Try (prog)
set_option linter.all false
set_option maxRecDepth 100000
set_option maxHeartbeats 4000000
end Go.Proofs.Ytdkmepjedjclkaa

/-
  THE PLAIN LAW (6): the cuts stand in order; a consistent cut is the join of clocks. Conditions: none.
-/
namespace Go.Proofs.Ytdkmepjedjclkaa
open Go.AM
open Go.Proofs.Try (prog)
set_option linter.all false
set_option maxRecDepth 10000
theorem lexLt_irr : ∀ a : List Int, lexLt a a = false
  | [] => rfl
  | a :: x => by simp [lexLt, lexLt_irr x]
theorem tuples_sorted : ∀ D : List Int, (tuplesL D).Pairwise (fun a b => lexLt a b = true)
  | [] => by simp [tuplesL]
  | d :: D => by
    simp only [tuplesL]
    rw [List.pairwise_flatMap]
    refine ⟨fun i _ => ?_, ?_⟩
    · rw [List.pairwise_map]
      exact (tuples_sorted D).imp fun h => by simpa [lexLt] using h
    · refine List.pairwise_lt_range.imp fun {i j} hij a ha b hb => ?_
      simp only [List.mem_map] at ha hb
      obtain ⟨a', _, rfl⟩ := ha
      obtain ⟨b', _, rfl⟩ := hb
      have h1 : ¬ (i : Int) = j := by omega
      simp only [lexLt, h1, if_false, decide_eq_true_eq]
      omega
theorem cuts_sorted (D : List Int) (N : List Note) : (cutsL D N).Pairwise (fun a b => lexLt a b = true) := (tuples_sorted D).filter _
section
variable {D : List Int} {N : List Note} {K : List (List (List Int))}
end
end Go.Proofs.Ytdkmepjedjclkaa

/-
  THE PLAIN LAW (7): the cuts at which all hands say yes are closed under meet and join; the least of them comes first. Conditions: none.
-/
namespace Go.Proofs.Ytdkmepjedjclkaa
open Go.AM
open Go.Proofs.Try (prog)
set_option linter.all false
set_option maxRecDepth 100000
section
variable {D : List Int} {N : List Note} {F : List (List Bool)}
end
theorem lex_of_le : ∀ {a b : List Int}, a.length = b.length → (∀ g, nth a g ≤ nth b g) → lexLt b a = false
  | [], [], _, _ => rfl
  | x :: a, y :: b, hl, h => by
    have h0 : x ≤ y := h 0
    have ih := lex_of_le (a := a) (b := b) (by simpa using hl) fun g => h (g + 1)
    simp only [lexLt]
    by_cases e : y = x
    · rw [if_pos e]; exact ih
    · rw [if_neg e, decide_eq_false_iff_not]; omega
  | [], _ :: _, hl, _ => by simp at hl
  | _ :: _, [], hl, _ => by simp at hl
theorem head_least {Y : List (List Int)} (hs : Y.Pairwise (fun a b => lexLt a b = true)) {u : List Int} (hu : u ∈ Y) {n : Nat} (hn : ∀ y ∈ Y, y.length = n) (hl : ∀ y ∈ Y, ∀ g, nth u g ≤ nth y g) : Y.head? = some u := by
  cases Y with
  | nil => cases hu
  | cons x l =>
    rw [List.pairwise_cons] at hs
    rcases List.mem_cons.1 hu with e | e
    · rw [e]; rfl
    · have h1 := hs.1 u e
      have h2 := lex_of_le (a := u) (b := x) (by rw [hn u hu, hn x (by simp)]) (hl x (by simp))
      rw [h2] at h1; cases h1
end Go.Proofs.Ytdkmepjedjclkaa
