/-
  WatchLattice RETURNS TRUE. Conditions: none.
-/
import Derived.Test.YtdkmepjedjclkaaKSCutE
import Derived.Test.YtdkmepjedjclkaaKTCuts
import Derived.Test.YtdkmepjedjclkaaKBLawC
set_option linter.all false
namespace Go.Proofs.Ytdkmepjedjclkaa
open Go.AM
open Go.Proofs.Try (prog)
set_option linter.all false
set_option maxRecDepth 100000
set_option maxHeartbeats 4000000

theorem meet_con {D p q : List Int} {N : List Note} (L : Lims D N) (hp : p ∈ cutsL D N) (hq : q ∈ cutsL D N) : zmin p q ∈ cutsL D N := by
  obtain ⟨a1, a2⟩ := (mem_cuts L).1 hp
  obtain ⟨b1, b2⟩ := (mem_cuts L).1 hq
  have e := fun g => nth_zmin (a := p) (b := q) (by rw [a1.len, b1.len]) g
  refine (mem_cuts L).2 ⟨⟨by simp [zmin, a1.len, b1.len], fun h => ?_, fun h => ?_⟩, ?_⟩
  · rw [e]; have := a1.lo h; have := b1.lo h; omega
  · rw [e]; have := a1.hi h; omega
  · rw [conR_iff] at *
    intro x hx hr
    rw [e] at hr ⊢
    have := a2 x hx (by omega)
    have := b2 x hx (by omega)
    omega
theorem join_con {D p q : List Int} {N : List Note} (L : Lims D N) (hp : p ∈ cutsL D N) (hq : q ∈ cutsL D N) : zmax p q ∈ cutsL D N := by
  obtain ⟨a1, a2⟩ := (mem_cuts L).1 hp
  obtain ⟨b1, b2⟩ := (mem_cuts L).1 hq
  have e := fun g => nth_zmax (a := p) (b := q) (by rw [a1.len, b1.len]) g
  refine (mem_cuts L).2 ⟨⟨by simp [zmax, a1.len, b1.len], fun h => ?_, fun h => ?_⟩, ?_⟩
  · rw [e]; have := a1.lo h; have := b1.lo h; omega
  · rw [e]; have := a1.hi h; have := b1.hi h; omega
  · rw [conR_iff] at *
    intro x hx hr
    rw [e] at hr ⊢
    by_cases h : x.r ≤ nth p x.t.toNat
    · have := a2 x hx h; omega
    · have := b2 x hx (by omega); omega

end Go.Proofs.Ytdkmepjedjclkaa
