/-
  WatchCuts RETURNS TRUE. Conditions: none.
-/
import Derived.Test.YtdkmepjedjclkaaKMove
import Derived.Test.YtdkmepjedjclkaaKSDat
set_option linter.all false
namespace Go.Proofs.Ytdkmepjedjclkaa
open Go.AM
open Go.Proofs.Try (prog)
set_option linter.all false
set_option maxRecDepth 100000

theorem few_spec {v : AV} {l : List Int} (h : IsInts v l) (hl : (l.length : Int) ≤ 9223372036854775807) : ∃ v', IsInts v' (l.take 5) ∧ ∀ m, denC prog ann 44 [v] m = some (v', m) := by
  obtain ⟨w1, a1, a2⟩ := slice_ints h (j := min (l.length : Int) 5) (by omega) (by omega)
  have e1 := take_min l 5
  simp only [Int.cast_ofNat_Int] at e1
  rw [e1] at a2
  obtain ⟨x1, c1, c2⟩ := app_ints a2 (by simp; omega)
  refine ⟨x1, c2, fun m => ?_⟩
  rw [l09_few.call_eq _ _ (by simp [h.closed])]
  simp [h.len, a1, c1, c2.deep]

theorem frz_ints {v : AV} {l : List Int} (h : IsInts v l) (m : Mem) : frzV v m = some (v, m) := by rcases h with ⟨rfl, _⟩ | ⟨_, rfl⟩ <;> simp [frzV]
theorem u4 : prog.underlying 4 = some .bool := by kernel_rfl
theorem eql4 (a b : Bool) : binA prog .eql 4 (.bool a) (.bool b) = some (.bool (decide (a = b))) := by cases a <;> cases b <;> simp [binA, eqT, eqA, u4]

/-- Where a list stands from a place on. -/
def fromI (rows : List (List Int)) (l : List Int) (i : Nat) : Int := match (rows.drop i).findIdx? (fun x => l == x) with | some j => (i : Int) + j | none => -1
theorem find_drop {rows : List (List Int)} {l : List Int} {i : Nat} (hi : i < rows.length) (hne : rows[i] ≠ l) : fromI rows l i = fromI rows l (i + 1) := by
  have h5 : (l == rows[i]) = false := beq_eq_false_iff_ne.2 fun e => hne e.symm
  rw [fromI, fromI, List.drop_eq_getElem_cons hi, List.findIdx?_cons, h5]
  cases hq : List.findIdx? (fun x => l == x) (List.drop (i + 1) rows) with
  | none => simp
  | some j => simp; omega
theorem find_here {rows : List (List Int)} {l : List Int} {i : Nat} (hi : i < rows.length) (he : rows[i] = l) : fromI rows l i = i := by
  have h5 : (l == rows[i]) = true := by rw [he]; exact beq_self_eq_true l
  rw [fromI, List.drop_eq_getElem_cons hi, List.findIdx?_cons, h5]
  simp
theorem find_end {rows : List (List Int)} {l : List Int} {i : Nat} (hi : rows.length ≤ i) : fromI rows l i = -1 := by
  rw [fromI, List.drop_of_length_le hi]; rfl

theorem cuts_end {wD wN vl u v ub vb : AV} {l : List Int} {rows : List (List Int)} {bu bv : List Int} {n : Nat} {R : Int} {c0 : Bool} {rk e1 : Int} (hD : wD.closed = true) (hN : wN.closed = true) (hv : IsInts vl l) (hl : l.length < 100000) (hr : ∀ x ∈ rows, x.length ≤ n) (hn : n < 100000) (hrl : rows.length < 100000)
    (hu : IsInts u bu) (hbu : bu.length < 100000) (hub : IsInts ub bu) (eu : ∀ m, denC prog ann 46 [.agg [wD, wN], vl] m = some (ub, m)) (hvv : IsInts v bv) (hbv : bv.length < 100000) (hvb : IsInts vb bv) (ev : ∀ m, denC prog ann 47 [.agg [wD, wN], vl] m = some (vb, m))
    (f1 : c0 = decide (0 ≤ R)) (f2 : 0 ≤ R → rk = R ∧ e1 = 0) (f3 : R < 0 → rk = 0 ∧ e1 = 5) : ∀ (k i : Nat) (m : Mem), i + k = rows.length → R = fromI rows l i →
    l09_WatchCuts.L0 (.fptr [wD, wN]) vl (.bool c0) (.int .i64 0) (.int .i64 rk) (.int .i64 e1) u (.int .i64 0) v (.int .i64 0) (.int .i64 i) (.bool false) (.fsl false rows.length (flatC rowC rows)) m [.code l09_WatchCuts.r19, .code l09_WatchCuts.i5, .code l09_WatchCuts.r21, .code .ret] = some (.bool true, Mem.empty) := by
  have su := same_spec hu hub (by omega) (by omega)
  have sv := same_spec hvv hvb (by omega) (by omega)
  intro k
  induction k with
  | zero =>
    intro i m h1 h2
    have e : i = rows.length := by omega
    rw [find_end (by omega)] at h2
    obtain ⟨rfl, rfl⟩ := f3 (by omega)
    have hc : c0 = false := by rw [f1, decide_eq_false_iff_not]; omega
    subst hc
    rw [l09_WatchCuts.L0_eq]
    simp [e, su, sv, eu, ev, hD, hN, hv.closed, hu.closed, hub.closed, hvv.closed, hvb.closed, hv.deep, hu.deep, lives_spec, eql4, frz_ints hv]
    done
  | succ k ih =>
    intro i m h1 h2
    have h4 : i < rows.length := by omega
    have hw : IntKind.wrap .i64 ((i : Int) + 1) = (i : Int) + 1 := wrap_id (by omega) (by omega)
    have hrow : (rows[i]).length ≤ n := hr _ (List.getElem_mem h4)
    have hld : loadF false 1 (.fptr (flatC rowC (rows.drop i))) = some (.fsl false (rows[i]).length (ints rows[i])) := by rw [flatC_at (List.getElem?_eq_getElem h4)]; simp [rowC]
    have hs := same_spec (IsInts.fsl false rows[i]) hv (by omega) (by omega)
    have hidx := (IsSl.fsl (f := rowC) false rows).idx (rowC_len _) h4 .i64
    rw [l09_WatchCuts.L0_eq]
    by_cases q : rows[i] = l
    · rw [find_here h4 q] at h2
      obtain ⟨rfl, rfl⟩ := f2 (by omega)
      have hc : c0 = true := by rw [f1, decide_eq_true_eq]; omega
      subst hc
      subst h2
      rw [q] at hld hs
      simp [h4, hidx, hld, hs, su, sv, eu, ev, hD, hN, hv.closed, hu.closed, hub.closed, hvv.closed, hvb.closed, lives_spec, eql4, frz_ints hv]
      done
    · rw [find_drop h4 q] at h2
      have hi := ih (i + 1) m (by omega) h2
      simp only [Int.natCast_add, Int.cast_ofNat_Int] at hi
      simp [h4, hidx, hld, hs, q, hv.closed, hw, hi]
      done

theorem rank_from (D : List Int) (N : List Note) (l : List Int) : rankOf D N l = fromI (cutsL D N) l 0 := by
  rw [rankOf, fromI, List.drop_zero]
  cases List.findIdx? (fun x => l == x) (cutsL D N) with
  | none => rfl
  | some j => simp
theorem rank_con {D l : List Int} {N : List Note} (L : Lims D N) (h : CutL D l) : conR N l = decide (0 ≤ rankOf D N l) := by
  have hm : l ∈ cutsL D N ↔ conR N l = true := by rw [mem_cuts L]; exact ⟨fun x => x.2, fun x => ⟨h, x⟩⟩
  cases hq : List.findIdx? (fun x => l == x) (cutsL D N) with
  | none =>
    have : rankOf D N l = -1 := by rw [rankOf, hq]
    rw [this]
    rw [List.findIdx?_eq_none_iff] at hq
    cases hc : conR N l with
    | false => rfl
    | true => have := hq l (hm.2 hc); simp at this
  | some j =>
    have e : rankOf D N l = j := by rw [rankOf, hq]
    rw [e]
    rw [List.findIdx?_eq_some_iff_getElem] at hq
    obtain ⟨hj, h1, _⟩ := hq
    have : l = (cutsL D N)[j] := by simpa using h1
    have hc := hm.1 (by rw [this]; exact List.getElem_mem hj)
    rw [hc]
    simp

theorem cuts_runs {d : Nat} (a0 a1 : AV) (h0 : DatV prog (d + 4) 25 a0) (h1 : DatV prog (d + 4) 22 a1) : ∃ m', denC prog ann 10 [a0, a1] Mem.empty = some (.bool true, m') := by
  obtain ⟨D, N, hs, kD, kN⟩ := dat25 h0
  obtain ⟨l0, hl0, kl⟩ := datV22 h1
  obtain ⟨v, ht, hc⟩ := cut_spec hs kD kN
  obtain ⟨vl, hv, hfew⟩ := few_spec hl0 kl
  generalize hD' : D.take 5 = D' at ht
  generalize hN' : N.take 25 = N' at ht
  generalize hL' : l0.take 5 = l at hv
  have l1 : D'.length ≤ 5 := by rw [← hD']; simp; omega
  have l2 : N'.length ≤ 25 := by rw [← hN']; simp; omega
  have l3 : l.length ≤ 5 := by rw [← hL']; simp; omega
  obtain ⟨b, hb, eb⟩ := valid_spec ht (by omega) (by omega)
  obtain ⟨c0, e0, hr0, er0⟩ := consistentV_spec ht (by omega) (by omega) hv (by omega)
  obtain ⟨rk, e1, hr1, er1⟩ := rankV_spec ht (by omega) (by omega) hv (by omega)
  obtain ⟨r2, e2, hr2, er2⟩ := backV_spec ht (by omega) (by omega) hv (by omega)
  obtain ⟨r3, e3, hr3, er3⟩ := forthV_spec ht (by omega) (by omega) hv (by omega)
  have hcr := fun m => cutR_spec ht hv (by omega) m
  obtain ⟨wD, wN, rfl, g1, g2⟩ := ht.ex
  obtain ⟨vD, vN, rfl, f1, f2⟩ := hs.ex
  have hcl : closedL [.agg [vD, vN], a1] = true := by simp [f1.closed, f2.closed, hl0.closed]
  refine ⟨Mem.empty, ?_⟩
  rw [l09_WatchCuts.call_eq _ _ _ hcl]
  cases b with
  | false =>
    have hvd : ¬ ValidS D' N' := fun v => by have := hb.2 v; cases this
    obtain ⟨rfl, rfl⟩ := hr0.bad hvd
    obtain ⟨rfl, rfl⟩ := hr1.bad hvd
    cases hr2 with
    | form v => exact absurd v hvd
    | ok v => exact absurd v hvd
    | bad _ =>
      cases hr3 with
      | form v => exact absurd v hvd
      | ok v => exact absurd v hvd
      | bad _ =>
        simp [f1.one, f2.one, f1.closed, f2.closed, g1.one, g2.one, g1.closed, g2.closed, hc, hfew, hl0.closed, hv.closed, hv.deep, eb, er0, er1, er2, er3, lives_spec, g1.deep, g2.deep, frz_ints hv]
  | true =>
    have hvd : ValidS D' N' := hb.1 rfl
    have L := hvd.lims
    cases hq : cutB D' l with
    | false =>
      rw [hq] at hcr
      obtain ⟨rfl, rfl⟩ := hr0.form hvd hq
      obtain ⟨rfl, rfl⟩ := hr1.form hvd hq
      cases hr2 with
      | bad v => exact absurd hvd v
      | ok v h => rw [hq] at h; cases h
      | form _ _ =>
        cases hr3 with
        | bad v => exact absurd hvd v
        | ok v h => rw [hq] at h; cases h
        | form _ _ =>
          simp [f1.one, f2.one, f1.closed, f2.closed, g1.one, g2.one, g1.closed, g2.closed, hc, hfew, hl0.closed, hv.closed, hv.deep, eb, er0, er1, er2, er3, hcr, lives_spec, g1.deep, g2.deep, frz_ints hv]
    | true =>
      rw [hq] at hcr
      have hcut := cutB_iff.1 hq
      obtain ⟨rfl, rfl⟩ := hr0.ok hvd hq
      cases hr2 with
      | bad v => exact absurd hvd v
      | form _ h => rw [hq] at h; cases h
      | @ok K2 _ _ _ k2 i2 =>
        cases hr3 with
        | bad v => exact absurd hvd v
        | form _ h => rw [hq] at h; cases h
        | @ok K3 _ _ _ k3 i3 =>
          rw [back_eq k2 hvd.all hcut] at i2
          rw [forth_eq k3 hcut] at i3
          have htale : IsTale (.agg [wD, wN]) D' N' := ⟨wD, wN, rfl, g1, g2⟩
          obtain ⟨ub, j1, j2⟩ := backR_spec htale L hv hcut.len
          obtain ⟨vb, j3, j4⟩ := forthR_spec htale L hv hcut.len
          have hcuts := cutsR_spec htale L
          have hb2 : (lastL ((cutsL D' N').filter fun x => belowB x l)).length < 100000 := by
            rw [← back_eq k2 hvd.all hcut, List.length_take]; omega
          have hb3 : (firstL ((cutsL D' N').filter fun x => belowB l x)).length < 100000 := by
            rw [← forth_eq k3 hcut, List.length_take]; omega
          have hcl2 : (cutsL D' N').length ≤ 2401 := by
            have h1 := tuplesL_len D' (fun d hd => (L.all d hd).2)
            have h2 : 7 ^ D'.length ≤ 7 ^ 4 := Nat.pow_le_pow_right (by omega) L.n4
            have h3 : (cutsL D' N').length ≤ _ := List.length_filter_le _ _
            omega
          have hend := cuts_end (n := 5) (rows := cutsL D' N') g1.closed g2.closed hv (by omega) (fun x hx => by rw [cutsL_row hx]; omega) (by omega) (by omega) i2 hb2 j1 j2 i3 hb3 j3 j4 (rank_con L hcut)
            (fun h => hr1.ok hvd hq h) (fun h => hr1.none hvd hq h) (cutsL D' N').length 0
          have hend' := fun m => hend m (by omega) (rank_from D' N' l)
          simp only [Int.cast_ofNat_Int, Int.natCast_zero] at hend'
          simp [f1.one, f2.one, f1.closed, f2.closed, g1.one, g2.one, g1.closed, g2.closed, hc, hfew, hl0.closed, hv.closed, hv.deep, eb, er0, er1, er2, er3, hcr, g1.deep, g2.deep, frz_ints hv, hcuts, hend']
end Go.Proofs.Ytdkmepjedjclkaa
