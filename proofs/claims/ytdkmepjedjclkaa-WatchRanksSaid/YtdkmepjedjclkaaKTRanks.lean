/-
  WatchRanks RETURNS TRUE. Conditions: none.
-/
import Derived.Test.YtdkmepjedjclkaaKSAtA
import Derived.Test.YtdkmepjedjclkaaKSDat
set_option linter.all false
namespace Go.Proofs.Ytdkmepjedjclkaa
open Go.AM
open Go.Proofs.Try (prog)
set_option linter.all false
set_option maxRecDepth 100000

theorem cutsL_rows {D : List Int} {N : List Note} {i : Nat} (hi : i < (cutsL D N).length) : ∃ r, (cutsL D N)[i]? = some r ∧ (cutsL D N).getD i [] = r ∧ r.length ≤ D.length := by
  refine ⟨(cutsL D N)[i], by simp [hi], by simp [List.getD, hi], ?_⟩
  have h1 := List.getElem_mem hi
  have h2 := (List.mem_filter.1 h1).1
  have : ∀ (E : List Int), ∀ x ∈ tuplesL E, x.length = E.length := by
    intro E
    induction E with
    | nil => intro x hx; simp [tuplesL] at hx; subst hx; rfl
    | cons d E ih =>
      intro x hx
      simp only [tuplesL, List.mem_flatMap, List.mem_map] at hx
      obtain ⟨j, _, y, hy, rfl⟩ := hx
      simp [ih y hy]
  rw [this D _ h2]; exact Nat.le_refl _

theorem ranks_runs {d : Nat} (a0 a1 : AV) (h0 : DatV prog (d + 4) 25 a0) (h1 : DatV prog (d + 4) 3 a1) : ∃ m', denC prog ann 3 [a0, a1] Mem.empty = some (.bool true, m') := by
  obtain ⟨D, N, hs, kD, kN⟩ := dat25 h0
  obtain ⟨n, rfl, hn⟩ := datV3 h1
  obtain ⟨v, ht, hc⟩ := cut_spec hs kD kN
  generalize hD' : D.take 5 = D' at ht
  generalize hN' : N.take 25 = N' at ht
  have l1 : D'.length ≤ 5 := by rw [← hD']; simp; omega
  have l2 : N'.length ≤ 25 := by rw [← hN']; simp; omega
  obtain ⟨r, e, hr, er⟩ := at_spec ht (by omega) (by omega) n
  obtain ⟨b, hb, eb⟩ := valid_spec ht (by omega) (by omega)
  obtain ⟨wD, wN, rfl, g1, g2⟩ := ht.ex
  obtain ⟨vD, vN, rfl, f1, f2⟩ := hs.ex
  refine ⟨Mem.empty, ?_⟩
  rw [l09_WatchRanks.call_eq _ _ _ (by simp [f1.closed, f2.closed])]
  cases b with
  | false =>
    have hv : ¬ ValidS D' N' := fun v => by have := hb.2 v; cases this
    obtain ⟨rfl, rfl⟩ := hr.bad hv
    simp [f1.one, f2.one, f1.closed, f2.closed, g1.one, g2.one, g1.closed, g2.closed, hc, er, eb, lives_spec, g1.deep, g2.deep]
  | true =>
    have hv : ValidS D' N' := hb.1 rfl
    have hcut := cutsR_spec ht hv.lims
    by_cases q1 : n < 0
    · obtain ⟨rfl, rfl⟩ := hr.none hv (.inl q1)
      simp [f1.one, f2.one, f1.closed, f2.closed, g1.one, g2.one, g1.closed, g2.closed, hc, er, eb, lives_spec, g1.deep, g2.deep, hcut, q1]
    · by_cases q2 : ((cutsL D' N').length : Int) ≤ n
      · obtain ⟨rfl, rfl⟩ := hr.none hv (.inr q2)
        simp [f1.one, f2.one, f1.closed, f2.closed, g1.one, g2.one, g1.closed, g2.closed, hc, er, eb, lives_spec, g1.deep, g2.deep, hcut, q1, q2]
      · obtain ⟨i, rfl⟩ : ∃ i : Nat, n = i := ⟨n.toNat, by omega⟩
        obtain ⟨ir, rfl⟩ := hr.ok hv (by omega) (by omega)
        have hi : i < (cutsL D' N').length := by omega
        obtain ⟨row, w1, w2, w3⟩ := cutsL_rows hi
        simp only [Int.toNat_natCast, w2] at ir
        have hidx := (IsSl.fsl (f := rowC) false (cutsL D' N')).idx (rowC_len _) hi .i64
        have hld : loadF false 1 (.fptr (flatC rowC ((cutsL D' N').drop i))) = some (.fsl false row.length (ints row)) := by rw [flatC_at w1]; simp [rowC]
        have hsame := same_spec ir (IsInts.fsl false row) (by omega) (by omega)
        simp [f1.one, f2.one, f1.closed, f2.closed, g1.one, g2.one, g1.closed, g2.closed, hc, er, eb, lives_spec, g1.deep, g2.deep, hcut, q1, q2, hidx, hld, hsame, ir.closed, ir.deep]
end Go.Proofs.Ytdkmepjedjclkaa
