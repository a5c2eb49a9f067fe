/-
  WatchSets RETURNS TRUE. Conditions: none.
-/
import Derived.Test.YtdkmepjedjclkaaK07
set_option linter.all false
namespace Go.Proofs.Ytdkmepjedjclkaa
open Go.AM
open Go.Proofs.Try (prog)
set_option linter.all false
set_option maxRecDepth 100000
set_option maxHeartbeats 4000000

theorem path_len {D : List Int} {N : List Note} {S : List (List Int)} (L : Lims D N) {x : List Int} {l : List (List Int)} (p : Path D N S x l) : x ∈ cutsL D N → (l.length : Int) + x.sum ≤ D.sum + 1 := by
  induction p with
  | last => intro _; simp; omega
  | @step c h l hc hh r ng p ih =>
    intro hm
    have := ih r.mem
    have hl := ((mem_cuts L).1 hm).1.len
    have := sum_bump (c := c) (h := h) (by omega)
    simp; omega
theorem path_few {D : List Int} {N : List Note} {S : List (List Int)} (P : Pre D N) {l : List (List Int)} (p : Path D N S (List.replicate D.length 0) l) : l.length ≤ 25 := by
  have a := path_len P.L p (zeros_cut P.L P)
  have b := sum_six D P.L.n4 P.L.hi
  simp at a
  omega

theorem sbad_loop {wD wN vL x7 x8 x9 x10 : AV} {D : List Int} {N : List Note} {cs : List AV} {L : List (List Int)} (hs : IsTale (.agg [wD, wN]) D N) (hL : IsVec IsInts vL cs L) (hw : Short L) (hl : L.length < 1000000) (Kc : List Item) : ∀ (k i : Nat) (m : Mem), i + k = L.length →
    ∃ (i' : Nat) (m' : Mem), ((L.drop i).all (cutB D) = true → i' = L.length) ∧
      l09_WatchSets.L0 (.fptr [wD, wN]) vL x7 x8 x9 x10 (.int .i64 0) (.int .i64 i) m Kc = l09_WatchSets.L0 (.fptr [wD, wN]) vL x7 x8 x9 x10 (.int .i64 (if (L.drop i).all (cutB D) = true then 0 else 2)) (.int .i64 i') m' Kc := by
  have hs' := hs
  obtain ⟨_, _, e0, hD, hN⟩ := hs.ex
  cases e0
  intro k
  induction k with
  | zero =>
    intro i m h1
    have e : i = L.length := by omega
    refine ⟨i, m, fun _ => e, ?_⟩
    rw [List.drop_of_length_le (by omega)]; rfl
  | succ k ih =>
    intro i m h1
    have hi : i < L.length := by omega
    have hwr : IntKind.wrap .i64 ((i : Int) + 1) = (i : Int) + 1 := wrap_id (by omega) (by omega)
    have hb := hL.at hi
    have hc := fun m => cutR_spec hs' hb (hw i hi) m
    rw [drop_gth hi, List.all_cons]
    cases q : cutB D (gth L i) with
    | true =>
      rw [q] at hc
      obtain ⟨i', m', a, b⟩ := ih (i + 1) ⟨m.h, m.nx + 7⟩ (by omega)
      refine ⟨i', m', by simpa using a, ?_⟩
      simp only [Int.natCast_add, Int.cast_ofNat_Int] at b
      rw [Bool.true_and, ← b, l09_WatchSets.L0_eq]
      simp [hL.len, hi, hL.idx hi, hL.load hi, hD.one, hN.one, hD.closed, hN.closed, hb.closed, hc, hwr]
      done
    | false =>
      rw [q] at hc
      refine ⟨i + 1, ⟨m.h, m.nx + 7⟩, fun h => by simp at h, ?_⟩
      have e2 : (if (false && (L.drop (i + 1)).all (cutB D)) = true then (0 : Int) else 2) = 2 := by simp
      simp only [Int.natCast_add, Int.cast_ofNat_Int]
      rw [e2, l09_WatchSets.L0_eq]
      simp [hL.len, hi, hL.idx hi, hL.load hi, hD.one, hN.one, hD.closed, hN.closed, hb.closed, hc, hwr]
      done

theorem sets_runs {d : Nat} (a0 a1 : AV) (h0 : DatV prog (d + 4) 25 a0) (h1 : DatV prog (d + 4) 31 a1) : ∃ m', denC prog ann 8 [a0, a1] Mem.empty = some (.bool true, m') := by
  obtain ⟨D, N, hs, kD, kN⟩ := dat25 h0
  obtain ⟨cy, Y, hY, kY, kw⟩ := datV31 (d := d + 1) h1
  obtain ⟨v, ht, hc⟩ := cut_spec hs kD kN
  generalize hD' : D.take 5 = D' at ht
  generalize hN' : N.take 25 = N' at ht
  have l1 : D'.length ≤ 5 := by rw [← hD']; simp; omega
  have l2 : N'.length ≤ 25 := by rw [← hN']; simp; omega
  obtain ⟨X, hX, esets⟩ := sets_spec hY kw
  have hLl : (cutS Y (min 2501 Y.length)).length ≤ 2501 := by rw [cutS_len]; omega
  have hsh : Short (cutS Y (min 2501 Y.length)) := fun i hi => by
    have hm := gth_mem hi
    simp only [cutS, List.mem_map] at hm
    obtain ⟨a, _, e⟩ := hm
    simp only [cutS]
    rw [← e]; simp; omega
  generalize cutS Y (min 2501 Y.length) = L at hX hLl hsh
  obtain ⟨p, e, hp, ep⟩ := possV_spec ht (by omega) (by omega) hX (by omega) hsh
  obtain ⟨q, f, hq, eq'⟩ := defV_spec ht (by omega) (by omega) hX (by omega) hsh
  obtain ⟨b, hb, eb⟩ := valid_spec ht (by omega) (by omega)
  have ht' := ht
  obtain ⟨wD, wN, rfl, g1, g2⟩ := ht.ex
  obtain ⟨vD, vN, rfl, f1, f2⟩ := hs.ex
  obtain ⟨i', m', ai, bi⟩ := sbad_loop (x7 := p) (x8 := .int .i64 e) (x9 := q) (x10 := .int .i64 f) ht' hX hsh (by omega) [.code l09_WatchSets.r14, .code l09_WatchSets.i4, .code l09_WatchSets.r16, .code l09_WatchSets.r17, .code .ret] L.length 0 ⟨upd Mem.empty.h 0 none, 1⟩ (by omega)
  simp only [List.drop_zero, Int.cast_ofNat_Int, Int.ofNat_zero] at ai bi
  have hXL : X.length = L.length := hX.n
  rw [hXL] at hX esets ep eq' bi
  have hXc : (AV.fsl false L.length X).closed = true := rfl
  refine ⟨Mem.empty, ?_⟩
  rw [l09_WatchSets.call_eq _ _ _ (by simp [f1.closed, f2.closed, hY.closed])]
  cases b with
  | false =>
    have hvd : ¬ ValidS D' N' := fun v => by have := hb.2 v; cases this
    cases hp with
    | bad _ =>
      cases hq with
      | bad _ =>
        simp [f1.one, f2.one, f1.closed, f2.closed, g1.one, g2.one, g1.closed, g2.closed, g1.deep, g2.deep, hc, hY.closed, esets, ep, eq', eb]
        rw [l09_WatchSets.L0_eq]
        by_cases z : 0 < L.length <;> simp [lives_spec, z]
        done
      | long v _ => exact absurd v hvd
      | form v _ _ => exact absurd v hvd
      | none v _ _ _ => exact absurd v hvd
      | ok v _ _ _ _ => exact absurd v hvd
    | long v _ => exact absurd v hvd
    | form v _ _ => exact absurd v hvd
    | none v _ _ _ => exact absurd v hvd
    | ok v _ _ _ _ => exact absurd v hvd
  | true =>
    have hvd : ValidS D' N' := hb.1 rfl
    have P := hvd.pre
    have hpl : ∀ {l : List (List Int)}, Path D' N' L (List.replicate D'.length 0) l → Short l ∧ l.length ≤ 25 := fun p =>
      ⟨fun i hi => by rw [p.row (by simp) _ (gth_mem hi)]; omega, path_few P p⟩
    cases hp with
    | bad h => exact absurd hvd h
    | long _ hlen =>
      cases hq with
      | bad h => exact absurd hvd h
      | form _ h _ => omega
      | none _ h _ _ => omega
      | ok _ h _ _ _ => omega
      | long _ _ =>
        simp [f1.one, f2.one, f1.closed, f2.closed, g1.one, g2.one, g1.closed, g2.closed, g1.deep, g2.deep, hc, hY.closed, esets, ep, eq', eb, show (2500 : Int) < L.length by omega]
        rw [l09_WatchSets.L0_eq]
        by_cases z : 0 < L.length <;> simp [lives_spec, z]
        done
    | form _ hlen hall =>
      rw [hall] at bi
      cases hq with
      | bad h => exact absurd hvd h
      | long _ h => omega
      | none _ _ h _ => rw [hall] at h; cases h
      | ok _ _ h _ _ => rw [hall] at h; cases h
      | form _ _ _ =>
        simp at bi
        simp [f1.one, f2.one, f1.closed, f2.closed, g1.one, g2.one, g1.closed, g2.closed, g1.deep, g2.deep, hc, hY.closed, esets, ep, eq', eb, show ¬ (2500 : Int) < L.length by omega]
        rw [bi, l09_WatchSets.L0_eq]
        by_cases z : i' < L.length <;> simp [lives_spec, z]
        done
    | none _ hlen hall hfind =>
      rw [hall] at bi
      have hi' := ai hall
      subst hi'
      simp at bi
      obtain ⟨u, u1, u2⟩ := possR_spec ht' P.L hX (all_cutB hall) (by omega)
      rw [hfind] at u1
      have hu : u = .nils := u1
      subst hu
      obtain ⟨w, w1, w2⟩ := defR_spec ht' P hX hsh (by omega)
      have s1 := same_spec IsInts.nils IsInts.nils (by simp) (by simp)
      simp at s1
      cases hq with
      | bad h => exact absurd hvd h
      | long _ h => omega
      | form _ _ h => rw [hall] at h; cases h
      | none _ _ _ hn =>
        cases w1 with
        | yes h _ => exact absurd h hn
        | no _ =>
          have s2 := sameL_spec (vec_nil (R := IsInts)) (vec_nil (R := IsInts)) (fun i hi => by simp at hi) (fun i hi => by simp at hi) (by simp)
          simp at s2
          simp [f1.one, f2.one, f1.closed, f2.closed, g1.one, g2.one, g1.closed, g2.closed, g1.deep, g2.deep, hc, hY.closed, esets, ep, eq', eb, show ¬ (2500 : Int) < L.length by omega]
          rw [bi, l09_WatchSets.L0_eq]
          simp [lives_spec, g1.one, g2.one, g1.closed, g2.closed, u2, w2, s1, s2, neil22, nil31, eql4]
          done
      | @ok ex l _ _ _ hcn hpp =>
        cases w1 with
        | no h => exact absurd hcn h
        | @yes l' _ hp' =>
          obtain ⟨sh, few⟩ := hpl hpp
          have hll := hpp.uniq hp'
          subst hll
          have s2 := sameL_spec (vec_rows ex l) (vec_rows false l) sh sh (by omega)
          simp at s2
          simp [f1.one, f2.one, f1.closed, f2.closed, g1.one, g2.one, g1.closed, g2.closed, g1.deep, g2.deep, hc, hY.closed, esets, ep, eq', eb, show ¬ (2500 : Int) < L.length by omega]
          rw [bi, l09_WatchSets.L0_eq]
          simp [lives_spec, g1.one, g2.one, g1.closed, g2.closed, u2, w2, s1, s2, neil22, nil31', eql4]
          done
    | @ok _ c _ hlen hall hfind ip =>
      rw [hall] at bi
      have hi' := ai hall
      subst hi'
      simp at bi
      obtain ⟨u, u1, u2⟩ := possR_spec ht' P.L hX (all_cutB hall) (by omega)
      rw [hfind] at u1
      obtain ⟨exu, hu⟩ : ∃ ex, u = .fsl ex c.length (ints c) := u1
      subst hu
      obtain ⟨w, w1, w2⟩ := defR_spec ht' P hX hsh (by omega)
      have hcm : c ∈ cutsL D' N' := List.mem_of_find?_eq_some hfind
      have hcl := cutsL_row hcm
      have s1 := same_spec ip (IsInts.fsl exu c) (by omega) (by omega)
      simp at s1
      cases hq with
      | bad h => exact absurd hvd h
      | long _ h => omega
      | form _ _ h => rw [hall] at h; cases h
      | none _ _ _ hn =>
        cases w1 with
        | yes h _ => exact absurd h hn
        | no _ =>
          have s2 := sameL_spec (vec_nil (R := IsInts)) (vec_nil (R := IsInts)) (fun i hi => by simp at hi) (fun i hi => by simp at hi) (by simp)
          simp at s2
          simp [f1.one, f2.one, f1.closed, f2.closed, g1.one, g2.one, g1.closed, g2.closed, g1.deep, g2.deep, hc, hY.closed, esets, ep, eq', eb, show ¬ (2500 : Int) < L.length by omega]
          rw [bi, l09_WatchSets.L0_eq]
          simp [lives_spec, g1.one, g2.one, g1.closed, g2.closed, u2, w2, s1, s2, ip.closed, neil22', nil31, eql4]
          done
      | @ok ex l _ _ _ hcn hpp =>
        cases w1 with
        | no h => exact absurd hcn h
        | @yes l' _ hp' =>
          obtain ⟨sh, few⟩ := hpl hpp
          have hll := hpp.uniq hp'
          subst hll
          have s2 := sameL_spec (vec_rows ex l) (vec_rows false l) sh sh (by omega)
          simp at s2
          simp [f1.one, f2.one, f1.closed, f2.closed, g1.one, g2.one, g1.closed, g2.closed, g1.deep, g2.deep, hc, hY.closed, esets, ep, eq', eb, show ¬ (2500 : Int) < L.length by omega]
          rw [bi, l09_WatchSets.L0_eq]
          simp [lives_spec, g1.one, g2.one, g1.closed, g2.closed, u2, w2, s1, s2, ip.closed, neil22', nil31', eql4]
          done
end Go.Proofs.Ytdkmepjedjclkaa
