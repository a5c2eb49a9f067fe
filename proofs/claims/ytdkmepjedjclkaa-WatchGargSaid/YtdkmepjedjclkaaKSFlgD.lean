/-
  FLAGS: THE REFERENCE's Yes; flags as an argument. Conditions: none.
-/
import Derived.Test.YtdkmepjedjclkaaKSFlgC
import Derived.Test.YtdkmepjedjclkaaKSDat
set_option linter.all false
namespace Go.Proofs.Ytdkmepjedjclkaa
open Go.AM
open Go.Proofs.Try (prog)
set_option linter.all false
set_option maxRecDepth 100000
set_option maxHeartbeats 4000000

theorem yesOut_loop {vF : AV} {cs : List AV} {F : List (List Bool)} (hF : IsVec IsBools vF cs F) {L : List (List Int)} (hL : L.length < 1000000) (hF4 : F.length ≤ 4) (hn : ∀ c ∈ L, c.length = F.length) (hw : ∀ c ∈ L, ∀ h, h < F.length → 0 ≤ nth c h ∧ nth c h < (gth F h).length) : ∀ (k i : Nat) (acc : List (List Int)) (m : Mem), i + k = L.length → acc.length ≤ i → m.h 0 = some (.cells (flatC rowC acc)) → 0 < m.nx →
    r09_Yes.L0 vF (.fsl false L.length (flatC rowC L)) (.sl 0 1 0 acc.length acc.length) (.int .i64 i) m [.code r09_Yes.r12, .code .ret] =
      some (.fsl false (acc ++ (L.drop i).filter (yesB F)).length (flatC rowC (acc ++ (L.drop i).filter (yesB F))), Mem.empty) := by
  intro k
  induction k with
  | zero =>
    intro i acc m h1 h2 h3 h4
    have e : i = L.length := by omega
    have hdp : ∀ d, mapO (deep m.h (d + 1)) (flatC rowC acc) = some (flatC rowC acc) := fun d => flatC_deep _ _ (fun a => by simp [rowC]) _
    have htk : (flatC rowC acc).take acc.length = flatC rowC acc := List.take_of_length_le (by rw [flatC_row_len]; exact Nat.le_refl _)
    rw [r09_Yes.L0_eq]
    simp [e, h3, flatC_row_len, hdp, htk]
    done
  | succ k ih =>
    intro i acc m h1 h2 h3 h4
    have hi : i < L.length := by omega
    have hmem := cth_mem hi
    have hwr : IntKind.wrap .i64 ((i : Int) + 1) = (i : Int) + 1 := wrap_id (by omega) (by omega)
    have i1 := (IsSl.fsl (f := rowC) false L).idx (rowC_len _) hi .i64
    have i2 := load_row hi
    obtain ⟨nx, a1, a2⟩ := yesIn_loop hF hL hi (hn _ hmem) hF4 (hw _ hmem) (.sl 0 1 0 acc.length acc.length) (.inBlock 1 :: .code r09_Yes.r4 :: .inLoop r09_Yes.l0 :: .inBlock 0 :: [.code r09_Yes.r12, .code .ret]) F.length 0 true m (by omega)
    have hd : L.drop i = cth L i :: L.drop (i + 1) := by
      obtain ⟨g1, g2⟩ := List.getElem?_eq_some_iff.1 (cth_eq hi)
      rw [List.drop_eq_getElem_cons g1, g2]
    have hcons : ∀ X : List (List Int), cth L i :: X = [cth L i] ++ X := fun _ => rfl
    have hy : yesR F (cth L i) F.length 0 = yesB F (cth L i) := rfl
    simp only [Bool.true_and, hy, Int.cast_ofNat_Int, Int.ofNat_zero] at a2
    have e0 : r09_Yes.L0 vF (.fsl false L.length (flatC rowC L)) (.sl 0 1 0 acc.length acc.length) (.int .i64 i) m [.code r09_Yes.r12, .code .ret] = r09_Yes.L2 vF (.fsl false L.length (flatC rowC L)) (.sl 0 1 0 acc.length acc.length) (.int .i64 i) (.bool true) (.int .i64 0) m (.code r09_Yes.r10 :: .code r09_Yes.i2 :: .inBlock 1 :: .code r09_Yes.r4 :: .inLoop r09_Yes.l0 :: .inBlock 0 :: [.code r09_Yes.r12, .code .ret]) := by
      rw [r09_Yes.L0_eq]
      simp [hi]
    rw [e0, a2, hd, List.filter_cons]
    cases q : yesB F (cth L i) with
    | false =>
      have hst := ih (i + 1) acc ⟨m.h, nx⟩ (by omega) (by omega) h3 (by show 0 < nx; omega)
      simp only [Int.natCast_add, Int.cast_ofNat_Int] at hst
      rw [if_neg (by simp), ← hst]
      simp [hwr]
      done
    | true =>
      have hfl : flatC rowC (acc ++ [cth L i]) = flatC rowC acc ++ [.fsl false (cth L i).length (ints (cth L i))] := by rw [flatC_append, flatC_one]; rfl
      have hst := ih (i + 1) (acc ++ [cth L i]) ⟨upd m.h 0 (some (.cells (flatC rowC (acc ++ [cth L i])))), nx⟩ (by omega) (by simp; omega) (by simp) (by show 0 < nx; omega)
      simp only [Int.natCast_add, Int.cast_ofNat_Int] at hst
      rw [if_pos rfl, hcons, ← List.append_assoc, ← hst]
      simp [i1, i2, hwr, h3, flatC_row_len, hfl, show acc.length ≤ 4611686018427387903 by omega, show (acc.length + 1) * 24 ≤ 70368744177664 by omega]
      done

theorem yesR_spec {v vF : AV} {D : List Int} {N : List Note} {cs : List AV} {F : List (List Bool)} (hs : IsTale v D N) (val : ValidS D N) (hF : IsVec IsBools vF cs F) (hf : FlagsOk D F) (hl : (cutsL D N).length < 1000000) (m : Mem) :
    denC prog ann 58 [v, vF] m = some (.fsl false (yesL D N F).length (flatC rowC (yesL D N F)), m) := by
  have hcut := cutsR_spec hs val.lims
  have h4 := val.n4
  have hFn := hf.n
  obtain ⟨vD, vN, rfl, h1, h2⟩ := hs.ex
  have hw : ∀ c ∈ cutsL D N, ∀ h, h < F.length → 0 ≤ nth c h ∧ nth c h < (gth F h).length := by
    intro c hc g hg
    obtain ⟨cu, _⟩ := (mem_cuts val.lims).1 hc
    have := cu.lo g
    have := cu.hi g
    have := hf.w g (by omega)
    omega
  have fin := yesOut_loop hF hl (by omega) (fun c hc => by rw [((mem_cuts val.lims).1 hc).1.len, hFn]) hw (cutsL D N).length 0 [] ⟨upd Mem.empty.h 0 (some (.cells [])), 1⟩ (by omega) (Nat.le_refl _) (by simp) (by show 0 < 1; omega)
  simp only [List.drop_zero, List.nil_append, List.length_nil, Int.cast_ofNat_Int, Int.ofNat_zero] at fin
  rw [r09_Yes.call_eq _ _ _ (by simp [h1.closed, h2.closed, hF.closed])]
  simp [h1.one, h2.one, h1.closed, h2.closed, hF.closed, hcut, fin, yesL]
  done

end Go.Proofs.Ytdkmepjedjclkaa
