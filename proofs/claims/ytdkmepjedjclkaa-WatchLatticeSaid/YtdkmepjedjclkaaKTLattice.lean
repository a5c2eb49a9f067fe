/-
  WatchLattice RETURNS TRUE. Conditions: none.
-/
import Derived.Test.YtdkmepjedjclkaaKSCutE
import Derived.Test.YtdkmepjedjclkaaKTCuts
import Derived.Test.YtdkmepjedjclkaaKBLawC
set_option linter.all false
namespace Go.Proofs.Ytdkmepjedjclkaa
open Go.AM
open Go.Proofs.Try (prog)
set_option linter.all false
set_option maxRecDepth 100000
set_option maxHeartbeats 4000000

theorem meet_con {D p q : List Int} {N : List Note} (L : Lims D N) (hp : p ∈ cutsL D N) (hq : q ∈ cutsL D N) : zmin p q ∈ cutsL D N := by
  obtain ⟨a1, a2⟩ := (mem_cuts L).1 hp
  obtain ⟨b1, b2⟩ := (mem_cuts L).1 hq
  have e := fun g => nth_zmin (a := p) (b := q) (by rw [a1.len, b1.len]) g
  refine (mem_cuts L).2 ⟨⟨by simp [zmin, a1.len, b1.len], fun h => ?_, fun h => ?_⟩, ?_⟩
  · rw [e]; have := a1.lo h; have := b1.lo h; omega
  · rw [e]; have := a1.hi h; omega
  · rw [conR_iff] at *
    intro x hx hr
    rw [e] at hr ⊢
    have := a2 x hx (by omega)
    have := b2 x hx (by omega)
    omega
theorem join_con {D p q : List Int} {N : List Note} (L : Lims D N) (hp : p ∈ cutsL D N) (hq : q ∈ cutsL D N) : zmax p q ∈ cutsL D N := by
  obtain ⟨a1, a2⟩ := (mem_cuts L).1 hp
  obtain ⟨b1, b2⟩ := (mem_cuts L).1 hq
  have e := fun g => nth_zmax (a := p) (b := q) (by rw [a1.len, b1.len]) g
  refine (mem_cuts L).2 ⟨⟨by simp [zmax, a1.len, b1.len], fun h => ?_, fun h => ?_⟩, ?_⟩
  · rw [e]; have := a1.lo h; have := b1.lo h; omega
  · rw [e]; have := a1.hi h; have := b1.hi h; omega
  · rw [conR_iff] at *
    intro x hx hr
    rw [e] at hr ⊢
    by_cases h : x.r ≤ nth p x.t.toNat
    · have := a2 x hx h; omega
    · have := b2 x hx (by omega); omega

theorem lattice_runs {d : Nat} (a0 a1 a2 : AV) (h0 : DatV prog (d + 4) 39 a0) (h1 : DatV prog (d + 4) 36 a1) (h2 : DatV prog (d + 4) 36 a2) : ∃ m', denC prog ann 4 [a0, a1, a2] Mem.empty = some (.bool true, m') := by
  obtain ⟨hh, ds, vT, T, t⟩ := datV39 h0
  obtain ⟨xs, rfl, hx4, hxB⟩ := datV36 (d := d + 2) h1
  obtain ⟨ys, rfl, hy4, hyB⟩ := datV36 (d := d + 2) h2
  obtain ⟨v, D, N, hs, val, hN12, em⟩ := made_spec t
  obtain ⟨K, k⟩ := clocks_of hs val
  obtain ⟨l, hl, el⟩ := cutN_spec hs val hx4 hxB
  obtain ⟨l', hl', el'⟩ := cutN_spec hs val hy4 hyB
  have h4 := val.n4
  obtain ⟨b1, _, _⟩ := bl_spec k hl
  obtain ⟨f1, _, _⟩ := fl_spec k hl'
  obtain ⟨u, iu, eu⟩ := backOk hs val (IsInts.fsl false l) hl
  obtain ⟨w, iw, ew⟩ := forthOk hs val (IsInts.fsl false l') hl'
  generalize bl D N l = p at b1 iu
  generalize fl D N l' = q at f1 iw
  have m1 := meet_con k.P.L b1 f1
  have j1 := join_con k.P.L b1 f1
  obtain ⟨cu, ku⟩ := (mem_cuts k.P.L).1 b1
  obtain ⟨cw, kw⟩ := (mem_cuts k.P.L).1 f1
  obtain ⟨cm, km⟩ := (mem_cuts k.P.L).1 m1
  obtain ⟨cj, kj⟩ := (mem_cuts k.P.L).1 j1
  have hpq : p.length = q.length := by rw [cu.len, cw.len]
  have hpl : p.length < 1000000 := by rw [cu.len]; omega
  have em1 := minR_spec iu iw hpq hpl
  have ej1 := maxR_spec iu iw hpq hpl
  have e1 := consOk hs val iu cu
  have e2 := consOk hs val iw cw
  have e3 := consOk hs val (IsInts.fsl false (zmin p q)) cm
  have e4 := consOk hs val (IsInts.fsl false (zmax p q)) cj
  rw [ku] at e1
  rw [kw] at e2
  rw [km] at e3
  rw [kj] at e4
  have ru := fun m => cutR_spec hs iu (by rw [cu.len]; omega) m
  have rw' := fun m => cutR_spec hs iw (by rw [cw.len]; omega) m
  rw [cutB_iff.2 cu] at ru
  rw [cutB_iff.2 cw] at rw'
  obtain ⟨vD, vN, rfl, hD, hNn⟩ := hs.ex
  have hcl : a0.closed = true := by rw [t.eq]; simp [t.vT.closed]
  have ds4 := t.d4
  rw [t.eq] at hcl em ⊢
  refine ⟨Mem.empty, ?_⟩
  rw [l09_WatchLattice.call_eq _ _ _ _ (by simp [hcl])]
  have ta4 : (u8s xs).take 4 = u8s xs := List.take_of_length_le (by simp [hx4])
  have tb4 : (u8s ys).take 4 = u8s ys := List.take_of_length_le (by simp [hy4])
  have td6 : (.int .u8 hh :: (u8s ds ++ [vT]) : List AV).take 6 = .int .u8 hh :: (u8s ds ++ [vT]) := List.take_of_length_le (by simp [ds4])
  simp at td6
  simp [l09_WatchLattice.L0_eq, hcl, t.vT.one, t.vT.closed, ds4, hx4, hy4, ta4, tb4, td6, em, hD.one, hNn.one, hD.closed, hNn.closed, hD.deep, hNn.deep, el, el', eu, ew, e1, e2, e3, e4, em1, ej1, ru, rw', iu.closed, iw.closed, iu.cells, iw.cells, iu.one, iw.one, frz_ints iu, frz_ints iw, iu.deep, iw.deep, lives_spec, eql4]
  done
end Go.Proofs.Ytdkmepjedjclkaa
