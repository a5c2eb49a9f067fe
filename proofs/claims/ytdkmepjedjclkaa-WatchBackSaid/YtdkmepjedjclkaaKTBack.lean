/-
  WatchBack RETURNS TRUE. Conditions: none.
-/
import Derived.Test.YtdkmepjedjclkaaKSCutE
import Derived.Test.YtdkmepjedjclkaaKTCuts
set_option linter.all false
namespace Go.Proofs.Ytdkmepjedjclkaa
open Go.AM
open Go.Proofs.Try (prog)
set_option linter.all false
set_option maxRecDepth 100000
set_option maxHeartbeats 4000000

theorem made_pure : (ann 23).pure = true := l09_Tale_made.pure_eq

theorem back_runs {d : Nat} (a0 a1 : AV) (h0 : DatV prog (d + 4) 39 a0) (h1 : DatV prog (d + 4) 36 a1) : ∃ m', denC prog ann 5 [a0, a1] Mem.empty = some (.bool true, m') := by
  obtain ⟨hh, ds, vT, T, t⟩ := datV39 h0
  obtain ⟨xs, rfl, hx4, hxB⟩ := datV36 (d := d + 2) h1
  obtain ⟨v, D, N, hs, val, hN12, em⟩ := made_spec t
  obtain ⟨K, k⟩ := clocks_of hs val
  obtain ⟨l, hl, el⟩ := cutN_spec hs val hx4 hxB
  have h4 := val.n4
  have hll := hl.len
  obtain ⟨b1, b2, b3⟩ := bl_spec k hl
  obtain ⟨f1, f2, f3⟩ := fl_spec k hl
  have hlv : IsInts (.fsl false l.length (ints l)) l := IsInts.fsl false l
  obtain ⟨u, iu, eu⟩ := backOk hs val hlv hl
  obtain ⟨w, iw, ew⟩ := forthOk hs val hlv hl
  have cu := ((mem_cuts k.P.L).1 b1).1
  have cw := ((mem_cuts k.P.L).1 f1).1
  obtain ⟨u2, iu2, eu2⟩ := backOk hs val iu cu
  obtain ⟨w2, iw2, ew2⟩ := forthOk hs val iw cw
  rw [bl_self k b1] at iu2
  rw [fl_self k f1] at iw2
  have ec := consOk hs val hlv hl
  have ru := fun m => cutR_spec hs iu (by have := cu.len; omega) m
  have rw' := fun m => cutR_spec hs iw (by have := cw.len; omega) m
  rw [cutB_iff.2 cu] at ru
  rw [cutB_iff.2 cw] at rw'
  have be1 := fun m => belowR_spec iu hlv (by rw [cu.len, hll]) (by have := cu.len; omega) m
  have be2 := fun m => belowR_spec hlv iw (by rw [cw.len, hll]) (by omega) m
  rw [(below_iff (by rw [cu.len, hll])).2 b2] at be1
  rw [(below_iff (by rw [cw.len, hll])).2 f2] at be2
  have su := fun m => same_spec iu2 iu (by have := cu.len; omega) (by have := cu.len; omega) m
  have sw := fun m => same_spec iw2 iw (by have := cw.len; omega) (by have := cw.len; omega) m
  have s1 := fun m => same_spec iu hlv (by have := cu.len; omega) (by omega) m
  have s2 := fun m => same_spec iw hlv (by have := cw.len; omega) (by omega) m
  obtain ⟨vD, vN, rfl, hD, hNn⟩ := hs.ex
  have hq : conR N l = decide (bl D N l = l) ∧ conR N l = decide (fl D N l = l) := by
    cases hc : conR N l with
    | true =>
      have hm := (mem_cuts k.P.L).2 ⟨hl, hc⟩
      simp [bl_self k hm, fl_self k hm]
    | false =>
      constructor
      · symm; rw [decide_eq_false_iff_not]; intro e
        rw [e] at b1
        rw [((mem_cuts k.P.L).1 b1).2] at hc; cases hc
      · symm; rw [decide_eq_false_iff_not]; intro e
        rw [e] at f1
        rw [((mem_cuts k.P.L).1 f1).2] at hc; cases hc
  have hcl : a0.closed = true := by rw [t.eq]; simp [t.vT.closed]
  have ds4 := t.d4
  rw [t.eq] at hcl em ⊢
  refine ⟨Mem.empty, ?_⟩
  rw [l09_WatchBack.call_eq _ _ _ (by simp [hcl])]
  have ta4 : (u8s xs).take 4 = u8s xs := List.take_of_length_le (by simp [hx4])
  have td6 : (.int .u8 hh :: (u8s ds ++ [vT]) : List AV).take 6 = .int .u8 hh :: (u8s ds ++ [vT]) := List.take_of_length_le (by simp [ds4])
  simp at td6
  cases hc : conR N l with
  | true =>
    rw [hc] at ec
    have g1 := of_decide_eq_true (hq.1.symm.trans hc)
    have g2 := of_decide_eq_true (hq.2.symm.trans hc)
    simp [hcl, t.vT.one, t.vT.closed, ds4, hx4, ta4, td6, em, hD.one, hNn.one, hD.closed, hNn.closed, hD.deep, hNn.deep, el, eu, ew, eu2, ew2, ec, ru, rw', be1, be2, su, sw, s1, s2, iu.closed, iw.closed, iu2.closed, iw2.closed, frz_ints iu, frz_ints iw, iu.deep, iw.deep, lives_spec, eql4, g1, g2]
    done
  | false =>
    rw [hc] at ec
    have g1 : ¬ bl D N l = l := of_decide_eq_false (hq.1.symm.trans hc)
    have g2 : ¬ fl D N l = l := of_decide_eq_false (hq.2.symm.trans hc)
    simp [hcl, t.vT.one, t.vT.closed, ds4, hx4, ta4, td6, em, hD.one, hNn.one, hD.closed, hNn.closed, hD.deep, hNn.deep, el, eu, ew, eu2, ew2, ec, ru, rw', be1, be2, su, sw, s1, s2, iu.closed, iw.closed, iu2.closed, iw2.closed, frz_ints iu, frz_ints iw, iu.deep, iw.deep, lives_spec, eql4, g1, g2]
    done
end Go.Proofs.Ytdkmepjedjclkaa
