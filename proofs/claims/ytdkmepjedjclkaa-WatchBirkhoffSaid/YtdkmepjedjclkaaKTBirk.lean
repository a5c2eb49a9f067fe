/-
  WatchBirkhoff RETURNS TRUE. Conditions: none.
-/
import Derived.Test.YtdkmepjedjclkaaKTMatt
import Derived.Test.YtdkmepjedjclkaaKSLawF
import Derived.Test.YtdkmepjedjclkaaKBBirk
set_option linter.all false
namespace Go.Proofs.Ytdkmepjedjclkaa
open Go.AM
open Go.Proofs.Try (prog)
set_option linter.all false
set_option maxRecDepth 100000
set_option maxHeartbeats 4000000

/-- What Cuts hands back. -/
inductive CutsRes (D : List Int) (N : List Note) : Int → Int → Prop where
  | bad (h : ¬ ValidS D N) : CutsRes D N 0 1
  | ok (v : ValidS D N) : CutsRes D N (cutsL D N).length 0
theorem cutsV_spec {v : AV} {D : List Int} {N : List Note} (hs : IsTale v D N) (hl : D.length < 100000) (hn : N.length < 100000) :
    ∃ x e, CutsRes D N x e ∧ ∀ m, denC prog ann 35 [v] m = some (.tup [.int .i64 x, .int .i64 e], m) := by
  obtain ⟨r, hr, er⟩ := readV_spec hs hl hn
  obtain ⟨vD, vN, rfl, h1, h2⟩ := hs.ex
  have hcl : closedL [.agg [vD, vN]] = true := by simp [h1.closed, h2.closed]
  cases hr with
  | no h =>
    refine ⟨0, 1, .bad h, fun m => ?_⟩
    rw [watch_Cuts.call_eq _ _ hcl]
    simp [h1.one, h2.one, h1.closed, h2.closed, er]
  | @ok sv K val k s =>
    obtain ⟨av, ea, ia⟩ := allV s
    have hlen : (allL (pad D) K D.length).length = (cutsL D N).length := by rw [← allL_eq k, List.length_map]
    refine ⟨_, 0, .ok val, fun m => ?_⟩
    rw [watch_Cuts.call_eq _ _ hcl]
    simp [h1.one, h2.one, h1.closed, h2.closed, er, ea, ia.len, hlen, s.closed]

theorem u7 : prog.underlying 84 = some (.int .u16) := by kernel_rfl
theorem datV84 {d : Nat} {a : AV} (h : DatV prog (d + 1) 84 a) : ∃ n, a = .int .u16 n ∧ 0 ≤ n ∧ n ≤ 65535 := by
  simp only [DatV, u7] at h
  simp only [Dat, u7] at h
  obtain ⟨n, e, hw⟩ := h
  refine ⟨n, by simpa using e, ?_⟩
  simp only [Lit.wf, Bool.and_eq_true, decide_eq_true_eq] at hw
  have e1 : IntKind.min .u16 = 0 := by decide
  have e2 : IntKind.max .u16 = 65535 := by decide
  rw [e1, e2] at hw
  exact hw

section
variable {D : List Int} {N : List Note} {K : List (List (List Int))} {vD vN vl : AV} {l : List Int}
theorem brow_loop (hs : IsTale (.agg [vD, vN]) D N) (val : ValidS D N) (c : Clocks D N K) (hv : IsInts vl l) (hc : CutL D l) {i : Nat} (hi : i < D.length) {J : List Int} (hJ : J.length = D.length) (Kc : List Item) : ∀ (k d : Nat) (m : Mem), d + k = (kth K i).length →
    ∃ m', l09_WatchBirkhoff.L2 (.fptr [vD, vN]) (wclkV K D.length) vl (.fsl false D.length (ints J)) (.int .i64 i) (.int .i64 d) m (.code l09_WatchBirkhoff.r22 :: .code l09_WatchBirkhoff.i6 :: .inBlock 1 :: .code l09_WatchBirkhoff.r13 :: .inLoop l09_WatchBirkhoff.l0 :: .inBlock 0 :: Kc) =
      l09_WatchBirkhoff.L0 (.fptr [vD, vN]) (wclkV K D.length) vl (.fsl false D.length (ints (if 0 < nth l i then zmax J ((clk K i ((nth l i).toNat - 1)).take D.length) else J))) (.int .i64 ((i : Int) + 1)) m' Kc := by
  have h4 := val.n4
  have d6 := val.hi i
  have hrow := c.I.rows i hi
  have hwi : IntKind.wrap .i64 ((i : Int) + 1) = (i : Int) + 1 := wrap_id (by omega) (by omega)
  have i1 := wclk_idx K hi .i64
  have i2 := wclk_load K hi
  have i3 := (slotV_is K D.length i).len
  rw [rowsN_len] at i3
  have hll := hc.len
  have hil : i < l.length := by omega
  have hs' := hs
  obtain ⟨_, _, e0, hD, hN⟩ := hs.ex
  cases e0
  intro k
  induction k with
  | zero =>
    intro d m h1
    have e : d = (kth K i).length := by omega
    by_cases q : 0 < nth l i
    · obtain ⟨a, b⟩ := cut_deed hc q
      have hj : (nth l i).toNat - 1 < (kth K i).length := c.in a b
      have i4 := (slotV_is K D.length i).idx (rowC_len _) (i := (nth l i).toNat - 1) (by rw [rowsN_len]; exact hj) .i64
      have i5 := load_row (R := rowsN K D.length i) (i := (nth l i).toNat - 1) (by rw [rowsN_len]; exact hj)
      rw [cth_rowsN hj] at i5
      have ht := clk_take (c.clk4 a b) h4
      have hw1 : IntKind.wrap .i64 (nth l i - 1) = (((nth l i).toNat - 1 : Nat) : Int) := by rw [wrap_id (by omega) (by omega)]; omega
      have hmx := maxR_spec (IsInts.fsl false J) (IsInts.fsl false ((clk K i ((nth l i).toNat - 1)).take D.length)) (by rw [hJ, ht]) (by omega)
      have hz : (zmax J ((clk K i ((nth l i).toNat - 1)).take D.length)).length = D.length := by simp [zmax, hJ, ht]
      rw [hJ, ht, hz] at hmx
      rw [ht] at i5
      generalize (clk K i ((nth l i).toNat - 1)).take D.length = x at i5 hmx hz ⊢
      refine ⟨⟨m.h, m.nx + 14⟩, ?_⟩
      rw [l09_WatchBirkhoff.L2_eq]
      simp [i1, i2, i3, e, hwi, hv.idx hil, ints_head hil, q, hw1, i4, i5, hmx]
      done
    · refine ⟨m, ?_⟩
      rw [l09_WatchBirkhoff.L2_eq]
      simp [i1, i2, i3, e, hwi, hv.idx hil, ints_head hil, q]
      done
  | succ k ih =>
    intro d m h1
    have hd : d < (kth K i).length := by omega
    have hd' : (d : Int) < nth D i := by omega
    have hw : IntKind.wrap .i64 ((d : Int) + 1) = (d : Int) + 1 := wrap_id (by omega) (by omega)
    obtain ⟨m', j1⟩ := ih (d + 1) ⟨m.h, m.nx + 14⟩ (by omega)
    refine ⟨m', ?_⟩
    have i4 := (slotV_is K D.length i).idx (rowC_len _) (i := d) (by rw [rowsN_len]; exact hd) .i64
    have i5 := load_row (R := rowsN K D.length i) (i := d) (by rw [rowsN_len]; exact hd)
    rw [cth_rowsN hd] at i5
    have hcut := clk_cut c hi hd'
    obtain ⟨cu, cn⟩ := (mem_cuts c.P.L).1 hcut
    have hc' := consOk hs' val (IsInts.fsl false ((clk K i d).take D.length)) cu
    rw [cn] at hc'
    clear cu cn hcut
    generalize (clk K i d).take D.length = x at i5 hc'
    simp only [Int.natCast_add, Int.cast_ofNat_Int] at j1
    rw [← j1, l09_WatchBirkhoff.L2_eq]
    simp [i1, i2, i3, i4, i5, hd, hw, hD.one, hN.one, hD.closed, hN.closed, hc']
    done

theorem bhand_loop (hs : IsTale (.agg [vD, vN]) D N) (val : ValidS D N) (c : Clocks D N K) (hv : IsInts vl l) (hc : CutL D l) : ∀ (k i : Nat) (J : List Int) (m : Mem), i + k = D.length → J.length = D.length → joinR K D.length l k i J = l →
    l09_WatchBirkhoff.L0 (.fptr [vD, vN]) (wclkV K D.length) vl (.fsl false D.length (ints J)) (.int .i64 i) m [.code l09_WatchBirkhoff.r24, .code .ret] = some (.bool true, Mem.empty) := by
  have h4 := val.n4
  have hll := hc.len
  have hs' := hs
  obtain ⟨_, _, e0, hD, hN⟩ := hs.ex
  cases e0
  intro k
  induction k with
  | zero =>
    intro i J m h1 hJ hj
    have e : i = D.length := by omega
    have hjl : J = l := hj
    subst hjl
    have hsame := same_spec (IsInts.fsl false J) hv (by omega) (by omega)
    rw [hJ] at hsame
    rw [l09_WatchBirkhoff.L0_eq]
    simp [e, hv.len, hll, hsame, hv.closed]
    done
  | succ k ih =>
    intro i J m h1 hJ hj
    have hi : i < D.length := by omega
    have hrow := c.I.rows i hi
    have i1 := wclk_idx K hi .i64
    have i2 := wclk_load K hi
    have i3 := (slotV_is K D.length i).len
    rw [rowsN_len] at i3
    obtain ⟨m1, j1⟩ := brow_loop hs' val c hv hc hi hJ [.code l09_WatchBirkhoff.r24, .code .ret] (kth K i).length 0 ⟨m.h, m.nx + 11⟩ (by omega)
    have j2 := ih (i + 1) _ m1 (by omega) (joinR_step c hc (h := i) hJ) hj
    simp only [Int.natCast_add, Int.cast_ofNat_Int] at j2
    simp only [Int.cast_ofNat_Int] at j1
    rw [← j2, ← j1, l09_WatchBirkhoff.L0_eq]
    simp [hv.len, hll, hi, i1, i2, i3, hD.idx hi, ints_head hi, ← hrow]
    done
end

theorem birk_runs {d : Nat} (a0 a1 : AV) (h0 : DatV prog (d + 4) 39 a0) (h1 : DatV prog (d + 4) 84 a1) : ∃ m', denC prog ann 14 [a0, a1] Mem.empty = some (.bool true, m') := by
  obtain ⟨hh, ds, vT, T, t⟩ := datV39 h0
  obtain ⟨n, rfl, n0, n1⟩ := datV84 h1
  obtain ⟨v, D, N, hs, val, hN12, em⟩ := made_spec t
  have h4 := val.n4
  obtain ⟨x, e, hr, ec⟩ := clocksV_spec hs (by omega) (by omega)
  obtain ⟨y, e', hr', ec'⟩ := cutsV_spec hs (by omega) (by omega)
  have hcl : a0.closed = true := by rw [t.eq]; simp [t.vT.closed]
  have ds4 := t.d4
  rw [t.eq] at hcl em ⊢
  have td6 : (.int .u8 hh :: (u8s ds ++ [vT]) : List AV).take 6 = .int .u8 hh :: (u8s ds ++ [vT]) := List.take_of_length_le (by simp [ds4])
  simp at td6
  cases hr' with
  | bad h => exact absurd val h
  | ok _ =>
  cases hr with
  | bad h => exact absurd val h
  | @ok K v k =>
    have hpos : 0 < (cutsL D N).length := List.length_pos_of_mem (zeros_cut k.P.L k.P)
    obtain ⟨i, hi⟩ : ∃ i : Nat, n.tmod (cutsL D N).length = i := ⟨(n.tmod (cutsL D N).length).toNat, by have := Int.tmod_nonneg (cutsL D N).length n0; omega⟩
    have hil : i < (cutsL D N).length := by
      have := Int.tmod_lt_of_pos n (b := (cutsL D N).length) (by omega)
      omega
    obtain ⟨r, er, hat, ea⟩ := at_spec hs (by omega) (by omega) (i : Int)
    obtain ⟨ir, rfl⟩ := hat.ok val (by omega) (by omega)
    have hget : (cutsL D N).getD (i : Int).toNat [] = (cutsL D N)[i] := by simp [List.getD, List.getElem?_eq_getElem hil]
    rw [hget] at ir
    have hmem : (cutsL D N)[i] ∈ cutsL D N := List.getElem_mem hil
    obtain ⟨cu, cn⟩ := (mem_cuts k.P.L).1 hmem
    have hrk := rank_at hil
    have hb := birkhoff k hmem
    generalize (cutsL D N)[i] = l at ir hmem cu cn hrk hb
    obtain ⟨q, eq', hq, ek⟩ := rankV_spec hs (by omega) (by omega) ir (by rw [cu.len]; omega)
    obtain ⟨rfl, rfl⟩ := hq.ok val (cutB_iff.2 cu) (by rw [hrk]; omega)
    rw [hrk] at ek
    have hct := fun m => cutR_spec hs ir (by rw [cu.len]; omega) m
    rw [cutB_iff.2 cu] at hct
    have hw : IntKind.wrap .i64 n = n := wrap_id (by omega) (by omega)
    obtain ⟨vD, vN, rfl, hD, hNn⟩ := hs.ex
    have fin := fun m => bhand_loop hs val k ir cu D.length 0 (List.replicate D.length 0) m (by omega) (by simp) hb
    simp only [Int.cast_ofNat_Int, Int.ofNat_zero] at fin
    have hrep : List.replicate D.length (AV.int .i64 0) = ints (List.replicate D.length 0) := by simp [ints]
    have hll := cu.len
    have htk : (ints (List.replicate D.length (0 : Int))).take D.length = ints (List.replicate D.length 0) := List.take_of_length_le (by simp)
    simp at htk
    have hne : ¬ ((cutsL D N).length : Int) < 1 := by omega
    have hne0 : ¬ (cutsL D N).length = 0 := by omega
    refine ⟨Mem.empty, ?_⟩
    rw [l09_WatchBirkhoff.call_eq _ _ _ (by simp [hcl])]
    simp [hcl, t.vT.one, t.vT.closed, ds4, td6, em, hD.one, hNn.one, hD.closed, hNn.closed, hD.deep, hNn.deep, hD.len, ec, ec', lives_spec, hne, hne0, hw, hi, ea, ir.closed, ir.len, ek, hct, hll, hrep, htk, fin, ir.deep, ir.one, show D.length ≤ 4611686018427387904 by omega, show D.length * 8 ≤ 70368744177664 by omega]
    done
end Go.Proofs.Ytdkmepjedjclkaa
