/-
  WatchMattern RETURNS TRUE. Conditions: none.
-/
import Derived.Test.YtdkmepjedjclkaaKSWClkC
import Derived.Test.YtdkmepjedjclkaaKSCutE
import Derived.Test.YtdkmepjedjclkaaKBMatt
set_option linter.all false
namespace Go.Proofs.Ytdkmepjedjclkaa
open Go.AM
open Go.Proofs.Try (prog)
set_option linter.all false
set_option maxRecDepth 100000
set_option maxHeartbeats 4000000

theorem neq4 (a b : Bool) : binA prog .neq 4 (.bool a) (.bool b) = some (.bool (!decide (a = b))) := by cases a <;> cases b <;> simp [binA, eqT, eqA, u4]

section
variable {D : List Int} {N : List Note} {K : List (List (List Int))}
/-- The clocks of a story are its only ones. -/
theorem clocks_uniq {K' : List (List (List Int))} (c : Clocks D N K) (c' : Clocks D N K') {h i : Nat} (hi : (i : Int) < nth D h) (q : Nat) : kn K h i q = kn K' h i q :=
  Int.le_antisymm (c.I.low _ c'.super h i (c.in (c.inD hi) hi) q) (c'.I.low _ c.super h i (c'.in (c'.inD hi) hi) q)
/-- A clock holds a deed exactly if it holds that deed's clock. -/
theorem clk_iff (c : Clocks D N K) {h d i j : Nat} (hd : (d : Int) < nth D h) (hj : (j : Int) < nth D i) : (d : Int) + 1 ≤ kn K i j h ↔ ∀ q, kn K h d q ≤ kn K i j q := by
  constructor
  · intro a q
    exact c.trans (c.inD hj) hj (by omega) q
  · intro a
    have u : (d : Int) + 1 ≤ kn K h d h := c.I.unit h d (c.in (c.inD hd) hd)
    exact Int.le_trans u (a h)
theorem kn_out (c : Clocks D N K) {h i q : Nat} (hi : (i : Int) < nth D h) (hq : D.length ≤ q) : kn K h i q ≤ 0 := by
  have := c.leD (c.inD hi) hi q
  rw [nth_out hq] at this; exact this
theorem cth_rowsN {n h i : Nat} (hi : i < (kth K h).length) : cth (rowsN K n h) i = (clk K h i).take n := by
  have := cth_eq hi
  simp [cth, rowsN, List.getD, List.getElem?_eq_getElem hi]
theorem rowsN_len {n h : Nat} : (rowsN K n h).length = (kth K h).length := by simp [rowsN]
theorem below_clk (c : Clocks D N K) {h d i j : Nat} (hd : (d : Int) < nth D h) (hj : (j : Int) < nth D i) : belowB ((clk K h d).take D.length) ((clk K i j).take D.length) = decide ((d : Int) + 1 ≤ kn K i j h) := by
  have l1 := c.clk4 (c.inD hd) hd
  have l2 := c.clk4 (c.inD hj) hj
  have e : belowB ((clk K h d).take D.length) ((clk K i j).take D.length) = true ↔ (d : Int) + 1 ≤ kn K i j h := by
    rw [below_iff (by simp [l1, l2]), clk_iff c hd hj]
    constructor
    · intro a q
      rcases Nat.lt_or_ge q D.length with hq | hq
      · have := a q
        rw [take_n hq, take_n hq] at this; exact this
      · have := kn_out c hd hq; have := kn_pos c i j q; omega
    · intro a q
      rcases Nat.lt_or_ge q D.length with hq | hq
      · rw [take_n hq, take_n hq]; exact a q
      · rw [take_out hq, take_out hq]; exact Int.le_refl _
  rw [Bool.eq_iff_iff, e, decide_eq_true_eq]

theorem before_ok {v : AV} (hs : IsTale v D N) (val : ValidS D N) (c : Clocks D N K) {h d i j : Nat} (hd : (d : Int) < nth D h) (hj : (j : Int) < nth D i) (m : Mem) :
    denC prog ann 32 [v, .agg [.int .i64 h, .int .i64 ((d : Int) + 1)], .agg [.int .i64 i, .int .i64 ((j : Int) + 1)]] m = some (.tup [.bool (!decide ([(h : Int), (d : Int) + 1] = [(i : Int), (j : Int) + 1]) && decide ((d : Int) + 1 ≤ kn K i j h)), .int .i64 0], m) := by
  have h4 := val.n4
  have h24 := val.N24
  have d6 := val.hi h
  have j6 := val.hi i
  have hh := c.inD hd
  have hi := c.inD hj
  obtain ⟨x, e, hr, eb⟩ := beforeV_spec hs (by omega) (by omega) (a := h) (b := (d : Int) + 1) (c := i) (d := (j : Int) + 1) ⟨by omega, by omega⟩ ⟨by omega, by omega⟩
  rw [eb]
  have o1 : deedOk D h ((d : Int) + 1) = true := by simp [deedOk]; omega
  have o2 : deedOk D i ((j : Int) + 1) = true := by simp [deedOk]; omega
  cases hr with
  | bad h => exact absurd val h
  | form v h => rw [o1, o2] at h; cases h
  | @ok K' v h h' k =>
    have e1 : ((j : Int) + 1).toNat - 1 = j := by omega
    simp only [Int.toNat_natCast, e1]
    rw [clocks_uniq k c hj]

variable {vD vN : AV}
theorem mrow_loop (hs : IsTale (.agg [vD, vN]) D N) (val : ValidS D N) (c : Clocks D N K) {h : Nat} (hh : h < D.length) (Kc : List Item) : ∀ (k d : Nat) (m : Mem), d + k = (kth K h).length →
    ∃ m', l09_WatchMattern.L2 (.fptr [vD, vN]) (wclkV K D.length) (.int .i64 h) (.int .i64 d) m (.inBlock 1 :: .code l09_WatchMattern.r7 :: .inLoop l09_WatchMattern.l0 :: .inBlock 0 :: Kc) = l09_WatchMattern.L0 (.fptr [vD, vN]) (wclkV K D.length) (.int .i64 ((h : Int) + 1)) m' Kc := by
  have h4 := val.n4
  have d6 := val.hi h
  have hrow := c.I.rows h hh
  have hwh : IntKind.wrap .i64 ((h : Int) + 1) = (h : Int) + 1 := wrap_id (by omega) (by omega)
  have i1 := wclk_idx K hh .i64
  have i2 := wclk_load K hh
  have i3 := (slotV_is K D.length h).len
  rw [rowsN_len] at i3
  have hs' := hs
  obtain ⟨_, _, e0, hD, hN⟩ := hs.ex
  cases e0
  intro k
  induction k with
  | zero =>
    intro d m h1
    have e : d = (kth K h).length := by omega
    refine ⟨m, ?_⟩
    rw [l09_WatchMattern.L2_eq]
    simp only [i1, i2, i3, e, l09_WatchMattern.r11_eq]
    simp [i1, i2, i3, hwh]
    done
  | succ k ih =>
    intro d m h1
    have hd : d < (kth K h).length := by omega
    have hd' : (d : Int) < nth D h := by omega
    have hw : IntKind.wrap .i64 ((d : Int) + 1) = (d : Int) + 1 := wrap_id (by omega) (by omega)
    obtain ⟨m', j1⟩ := ih (d + 1) ⟨m.h, m.nx + 10⟩ (by omega)
    refine ⟨m', ?_⟩
    have i4 := (slotV_is K D.length h).idx (rowC_len _) (i := d) (by rw [rowsN_len]; exact hd) .i64
    have i5 := load_row (R := rowsN K D.length h) (i := d) (by rw [rowsN_len]; exact hd)
    rw [cth_rowsN hd] at i5
    have hcut := clk_cut c hh hd'
    obtain ⟨cu, _⟩ := (mem_cuts c.P.L).1 hcut
    have hc := fun m => cutR_spec hs' (IsInts.fsl false ((clk K h d).take D.length)) (by rw [cu.len]; omega) m
    rw [cutB_iff.2 cu] at hc
    clear cu hcut
    generalize (clk K h d).take D.length = x at i5 hc
    simp only [Int.natCast_add, Int.cast_ofNat_Int] at j1
    rw [← j1, l09_WatchMattern.L2_eq]
    simp [i1, i2, i3, i4, i5, hd, hw, hD.one, hN.one, hD.closed, hN.closed, hc]
    done

theorem mhand_loop (hs : IsTale (.agg [vD, vN]) D N) (val : ValidS D N) (c : Clocks D N K) : ∀ (k h : Nat) (m : Mem), h + k = D.length →
    ∃ m', l09_WatchMattern.L0 (.fptr [vD, vN]) (wclkV K D.length) (.int .i64 h) m [.code l09_WatchMattern.r15, .code l09_WatchMattern.k4, .code l09_WatchMattern.r30, .code .ret] = l09_WatchMattern.L4 (.fptr [vD, vN]) (wclkV K D.length) (.int .i64 0) m' [.code l09_WatchMattern.r30, .code .ret] := by
  have h4 := val.n4
  have hs' := hs
  obtain ⟨_, _, e0, hD, hN⟩ := hs.ex
  cases e0
  intro k
  induction k with
  | zero =>
    intro h m h1
    have e : h = D.length := by omega
    refine ⟨m, ?_⟩
    rw [l09_WatchMattern.L0_eq]
    simp [e]
    done
  | succ k ih =>
    intro h m h1
    have hh : h < D.length := by omega
    have hrow := c.I.rows h hh
    obtain ⟨m1, j1⟩ := mrow_loop hs' val c hh [.code l09_WatchMattern.r15, .code l09_WatchMattern.k4, .code l09_WatchMattern.r30, .code .ret] (kth K h).length 0 ⟨m.h, m.nx + 11⟩ (by omega)
    obtain ⟨m2, j2⟩ := ih (h + 1) m1 (by omega)
    refine ⟨m2, ?_⟩
    have i1 := wclk_idx K hh .i64
    have i2 := wclk_load K hh
    have i3 := (slotV_is K D.length h).len
    rw [rowsN_len] at i3
    simp only [Int.natCast_add, Int.cast_ofNat_Int] at j2
    simp only [Int.cast_ofNat_Int] at j1
    rw [← j2, ← j1, l09_WatchMattern.L0_eq]
    simp [hh, i1, i2, i3, hD.idx hh, ints_head hh, ← hrow]
    done

theorem m10_loop (hs : IsTale (.agg [vD, vN]) D N) (val : ValidS D N) (c : Clocks D N K) {h d i : Nat} (hd : (d : Int) < nth D h) (hi : i < D.length) (Kc : List Item) : ∀ (k j : Nat) (m : Mem), j + k = (kth K i).length →
    ∃ m', l09_WatchMattern.L10 (.fptr [vD, vN]) (wclkV K D.length) (.int .i64 h) (.int .i64 d) (.int .i64 i) (.int .i64 j) m (.inBlock 9 :: .code l09_WatchMattern.r23 :: .inLoop l09_WatchMattern.l8 :: .inBlock 8 :: Kc) = l09_WatchMattern.L8 (.fptr [vD, vN]) (wclkV K D.length) (.int .i64 h) (.int .i64 d) (.int .i64 ((i : Int) + 1)) m' Kc := by
  have h4 := val.n4
  have hh := c.inD hd
  have d6 := val.hi h
  have i6 := val.hi i
  have hrow := c.I.rows h hh
  have hrowi := c.I.rows i hi
  have hwi : IntKind.wrap .i64 ((i : Int) + 1) = (i : Int) + 1 := wrap_id (by omega) (by omega)
  have hwd : IntKind.wrap .i64 ((d : Int) + 1) = (d : Int) + 1 := wrap_id (by omega) (by omega)
  have a1 := wclk_idx K hh .i64
  have a2 := wclk_load K hh
  have hdl : d < (kth K h).length := by omega
  have a3 := (slotV_is K D.length h).idx (rowC_len _) (i := d) (by rw [rowsN_len]; exact hdl) .i64
  have a4 := load_row (R := rowsN K D.length h) (i := d) (by rw [rowsN_len]; exact hdl)
  rw [cth_rowsN hdl] at a4
  have i1 := wclk_idx K hi .i64
  have i2 := wclk_load K hi
  have i3 := (slotV_is K D.length i).len
  rw [rowsN_len] at i3
  have hs' := hs
  obtain ⟨_, _, e0, hD, hN⟩ := hs.ex
  cases e0
  intro k
  induction k with
  | zero =>
    intro j m h1
    have e : j = (kth K i).length := by omega
    refine ⟨m, ?_⟩
    rw [l09_WatchMattern.L10_eq]
    simp [i1, i2, i3, e, hwi]
    done
  | succ k ih =>
    intro j m h1
    have hj : j < (kth K i).length := by omega
    have hj' : (j : Int) < nth D i := by omega
    have hw : IntKind.wrap .i64 ((j : Int) + 1) = (j : Int) + 1 := wrap_id (by omega) (by omega)
    obtain ⟨m', j1⟩ := ih (j + 1) ⟨m.h, m.nx + 31⟩ (by omega)
    refine ⟨m', ?_⟩
    have i4 := (slotV_is K D.length i).idx (rowC_len _) (i := j) (by rw [rowsN_len]; exact hj) .i64
    have i5 := load_row (R := rowsN K D.length i) (i := j) (by rw [rowsN_len]; exact hj)
    rw [cth_rowsN hj] at i5
    have l1 := c.clk4 hh hd
    have l2 := c.clk4 hi hj'
    have hbe := before_ok hs' val c hd hj'
    have hbl := fun m => belowR_spec (IsInts.fsl false ((clk K h d).take D.length)) (IsInts.fsl false ((clk K i j).take D.length)) (by simp [l1, l2]) (by simp; omega) m
    rw [below_clk c hd hj'] at hbl
    simp only [Int.natCast_add, Int.cast_ofNat_Int] at j1
    rw [← j1, l09_WatchMattern.L10_eq]
    by_cases q3 : (d : Int) + 1 ≤ kn K i j h
    · by_cases q1 : h = i
      · subst q1
        by_cases q2 : d = j
        · subst q2
          generalize (clk K h d).take D.length = x at a4 hbl
          simp [i1, i2, i3, a3, a4, hj, hw, hwd, hwi, hD.one, hN.one, hD.closed, hN.closed, hbe, hbl, neq4, q3]
          done
        · have q2' : ¬ (d : Int) = j := by omega
          generalize (clk K h d).take D.length = x at a4 hbl
          generalize (clk K h j).take D.length = y at i5 hbl
          simp [a1, a2, a3, a4, i1, i2, i3, i4, i5, hj, hw, hwd, hwi, hD.one, hN.one, hD.closed, hN.closed, hbe, hbl, neq4, q2, q2', q3]
          done
      · have q1' : ¬ (h : Int) = i := by omega
        generalize (clk K h d).take D.length = x at a4 hbl
        generalize (clk K i j).take D.length = y at i5 hbl
        simp [a1, a2, a3, a4, i1, i2, i3, i4, i5, hj, hw, hwd, hwi, hD.one, hN.one, hD.closed, hN.closed, hbe, hbl, neq4, q1, q1', q3]
        done
    · generalize (clk K h d).take D.length = x at a4 hbl
      generalize (clk K i j).take D.length = y at i5 hbl
      simp [a1, a2, a3, a4, i1, i2, i3, i4, i5, hj, hw, hwd, hwi, hD.one, hN.one, hD.closed, hN.closed, hbe, hbl, neq4, q3]
      done

theorem m8_loop (hs : IsTale (.agg [vD, vN]) D N) (val : ValidS D N) (c : Clocks D N K) {h d : Nat} (hd : (d : Int) < nth D h) (Kc : List Item) : ∀ (k i : Nat) (m : Mem), i + k = D.length →
    ∃ m', l09_WatchMattern.L8 (.fptr [vD, vN]) (wclkV K D.length) (.int .i64 h) (.int .i64 d) (.int .i64 i) m (.inBlock 7 :: .code l09_WatchMattern.r20 :: .inLoop l09_WatchMattern.l6 :: .inBlock 6 :: Kc) = l09_WatchMattern.L6 (.fptr [vD, vN]) (wclkV K D.length) (.int .i64 h) (.int .i64 ((d : Int) + 1)) m' Kc := by
  have h4 := val.n4
  have d6 := val.hi h
  have hwd : IntKind.wrap .i64 ((d : Int) + 1) = (d : Int) + 1 := wrap_id (by omega) (by omega)
  intro k
  induction k with
  | zero =>
    intro i m h1
    have e : i = D.length := by omega
    refine ⟨m, ?_⟩
    rw [l09_WatchMattern.L8_eq]
    simp [e, hwd]
    done
  | succ k ih =>
    intro i m h1
    have hi : i < D.length := by omega
    obtain ⟨m1, j1⟩ := m10_loop hs val c hd hi (.inBlock 7 :: .code l09_WatchMattern.r20 :: .inLoop l09_WatchMattern.l6 :: .inBlock 6 :: Kc) (kth K i).length 0 m (by omega)
    obtain ⟨m2, j2⟩ := ih (i + 1) m1 (by omega)
    refine ⟨m2, ?_⟩
    simp only [Int.natCast_add, Int.cast_ofNat_Int] at j2
    simp only [Int.cast_ofNat_Int] at j1
    rw [← j2, ← j1, l09_WatchMattern.L8_eq]
    simp [hi]
    done

theorem m6_loop (hs : IsTale (.agg [vD, vN]) D N) (val : ValidS D N) (c : Clocks D N K) {h : Nat} (hh : h < D.length) (Kc : List Item) : ∀ (k d : Nat) (m : Mem), d + k = (kth K h).length →
    ∃ m', l09_WatchMattern.L6 (.fptr [vD, vN]) (wclkV K D.length) (.int .i64 h) (.int .i64 d) m (.inBlock 5 :: .code l09_WatchMattern.r17 :: .inLoop l09_WatchMattern.l4 :: .inBlock 4 :: Kc) = l09_WatchMattern.L4 (.fptr [vD, vN]) (wclkV K D.length) (.int .i64 ((h : Int) + 1)) m' Kc := by
  have h4 := val.n4
  have hrow := c.I.rows h hh
  have hwh : IntKind.wrap .i64 ((h : Int) + 1) = (h : Int) + 1 := wrap_id (by omega) (by omega)
  have i1 := wclk_idx K hh .i64
  have i2 := wclk_load K hh
  have i3 := (slotV_is K D.length h).len
  rw [rowsN_len] at i3
  intro k
  induction k with
  | zero =>
    intro d m h1
    have e : d = (kth K h).length := by omega
    refine ⟨m, ?_⟩
    rw [l09_WatchMattern.L6_eq]
    simp [i1, i2, i3, e, hwh]
    done
  | succ k ih =>
    intro d m h1
    have hd : d < (kth K h).length := by omega
    obtain ⟨m1, j1⟩ := m8_loop hs val c (h := h) (d := d) (by omega) (.inBlock 5 :: .code l09_WatchMattern.r17 :: .inLoop l09_WatchMattern.l4 :: .inBlock 4 :: Kc) D.length 0 m (by omega)
    obtain ⟨m2, j2⟩ := ih (d + 1) m1 (by omega)
    refine ⟨m2, ?_⟩
    simp only [Int.natCast_add, Int.cast_ofNat_Int] at j2
    simp only [Int.cast_ofNat_Int] at j1
    rw [← j2, ← j1, l09_WatchMattern.L6_eq]
    simp [i1, i2, i3, hd]
    done

theorem m4_loop (hs : IsTale (.agg [vD, vN]) D N) (val : ValidS D N) (c : Clocks D N K) : ∀ (k h : Nat) (m : Mem), h + k = D.length →
    l09_WatchMattern.L4 (.fptr [vD, vN]) (wclkV K D.length) (.int .i64 h) m [.code l09_WatchMattern.r30, .code .ret] = some (.bool true, Mem.empty) := by
  intro k
  induction k with
  | zero =>
    intro h m h1
    have e : h = D.length := by omega
    rw [l09_WatchMattern.L4_eq]
    simp [e]
    done
  | succ k ih =>
    intro h m h1
    have hh : h < D.length := by omega
    obtain ⟨m1, j1⟩ := m6_loop hs val c hh [.code l09_WatchMattern.r30, .code .ret] (kth K h).length 0 m (by omega)
    have j2 := ih (h + 1) m1 (by omega)
    simp only [Int.natCast_add, Int.cast_ofNat_Int] at j2
    simp only [Int.cast_ofNat_Int] at j1
    rw [← j2, ← j1, l09_WatchMattern.L4_eq]
    simp [hh]
    done
end

theorem mattern_runs {d : Nat} (a0 : AV) (h0 : DatV prog (d + 4) 39 a0) : ∃ m', denC prog ann 9 [a0] Mem.empty = some (.bool true, m') := by
  obtain ⟨hh, ds, vT, T, t⟩ := datV39 h0
  obtain ⟨v, D, N, hs, val, hN12, em⟩ := made_spec t
  have h4 := val.n4
  obtain ⟨x, e, hr, ec⟩ := clocksV_spec hs (by omega) (by omega)
  have hcl : a0.closed = true := by rw [t.eq]; simp [t.vT.closed]
  have ds4 := t.d4
  rw [t.eq] at hcl em ⊢
  have td6 : (.int .u8 hh :: (u8s ds ++ [vT]) : List AV).take 6 = .int .u8 hh :: (u8s ds ++ [vT]) := List.take_of_length_le (by simp [ds4])
  simp at td6
  cases hr with
  | bad h => exact absurd val h
  | @ok K v k =>
    obtain ⟨vD, vN, rfl, hD, hNn⟩ := hs.ex
    obtain ⟨m1, j1⟩ := mhand_loop hs val k D.length 0 ⟨upd Mem.empty.h 0 none, 1⟩ (by omega)
    have j2 := m4_loop hs val k D.length 0 m1 (by omega)
    simp only [Int.cast_ofNat_Int, Int.ofNat_zero] at j1 j2
    refine ⟨Mem.empty, ?_⟩
    rw [l09_WatchMattern.call_eq _ _ (by simp [hcl])]
    simp [hcl, t.vT.one, t.vT.closed, ds4, td6, em, hD.one, hNn.one, hD.closed, hNn.closed, hD.deep, hNn.deep, hD.len, ec, lives_spec, j1, j2]
    done
end Go.Proofs.Ytdkmepjedjclkaa
