/-
  WatchFlags RETURNS TRUE. Conditions: none.
-/
import Derived.Test.YtdkmepjedjclkaaKSFlgD
import Derived.Test.YtdkmepjedjclkaaKTCuts
import Derived.Test.YtdkmepjedjclkaaKBWFlags
set_option linter.all false
namespace Go.Proofs.Ytdkmepjedjclkaa
open Go.AM
open Go.Proofs.Try (prog)
set_option linter.all false
set_option maxRecDepth 100000
set_option maxHeartbeats 4000000

theorem tuples_len : ∀ D : List Int, (∀ i, nth D i ≤ 6) → (tuplesL D).length ≤ 7 ^ D.length
  | [], _ => by simp [tuplesL]
  | d :: D, h => by
    have ih := tuples_len D fun i => h (i + 1)
    have hd : d ≤ 6 := h 0
    have e : ∀ (l : List Nat) (X : List (List Int)), (l.flatMap fun (i : Nat) => X.map (List.cons (i : Int))).length = l.length * X.length := by
      intro l X
      induction l with
      | nil => simp
      | cons a l ih => simp only [List.flatMap_cons, List.length_append, List.length_map, ih, List.length_cons]; rw [Nat.succ_mul]; omega
    simp only [tuplesL]
    rw [e, List.length_range, List.length_cons, Nat.pow_succ, Nat.mul_comm]
    exact Nat.mul_le_mul ih (by omega)
theorem cuts_few {D : List Int} {N : List Note} (L : Lims D N) : (cutsL D N).length ≤ 2401 := by
  refine Nat.le_trans (List.length_filter_le _ _) (Nat.le_trans (tuples_len D L.hi) ?_)
  exact Nat.le_trans (Nat.pow_le_pow_right (by omega) L.n4) (by decide)

/-- A row of flags as a value. -/
def rowBV (l : List Bool) : AV := .fsl (l.length == 0) l.length (flatC boolC l)
theorem rowBV_is (l : List Bool) : IsBools (rowBV l) l := .inr ⟨_, rfl⟩
theorem appB {v : AV} {l : List Bool} (h : IsBools v l) (hl : l.length ≤ 1000000) : appV 1 1 (.fsl true 0 []) v = some (rowBV l) := by
  rcases h with ⟨rfl, rfl⟩ | ⟨ex, rfl⟩
  · exact appV_nothing 1 1 (by omega)
  · by_cases e : l.length = 0
    · have : l = [] := List.length_eq_zero_iff.1 e
      subst this
      simp [appV, appF, rowBV]
    · have he : (l.length == 0) = false := beq_eq_false_iff_ne.2 e
      rw [appV_full (size := 1) (by' := 1) (n := l.length) (ex := ex) (cs := flatC boolC l) (by omega) (flatC_len fun a _ => rfl) (flatC_closedL (fun _ => rfl) l) (by simp [room]; omega) e, rowBV, he]
def cutF (Y : List (List Bool)) (k : Nat) : List (List Bool) := (Y.take k).map fun l => l.take 8
theorem cutF_len (Y : List (List Bool)) (k : Nat) : (cutF Y k).length = min k Y.length := by simp [cutF]
theorem cutF_succ {Y : List (List Bool)} {i : Nat} (hi : i < Y.length) : cutF Y (i + 1) = cutF Y i ++ [(gth Y i).take 8] := by
  simp [cutF, List.take_add_one, gth_eq hi]

theorem cutF_loop {vY x5 : AV} {cs : List AV} {Y : List (List Bool)} (hY : IsVec IsBools vY cs Y) (hw : ∀ i, i < Y.length → ((gth Y i).length : Int) ≤ 9223372036854775807) (Kc : List Item) : ∀ (k i : Nat) (m : Mem), i + k = min 5 Y.length → m.h 0 = some (.cells ((cutF Y i).map rowBV)) → 0 < m.nx →
    ∃ m', m'.h 0 = some (.cells ((cutF Y (min 5 Y.length)).map rowBV)) ∧ 0 < m'.nx ∧
      l09_WatchFlags.L0 vY x5 (.sl 0 1 0 i i) (.int .i64 i) m Kc = l09_WatchFlags.L0 vY x5 (.sl 0 1 0 (min 5 Y.length) (min 5 Y.length)) (.int .i64 (min 5 Y.length : Nat)) m' Kc := by
  intro k
  induction k with
  | zero =>
    intro i m h1 h2 h3
    have e : i = min 5 Y.length := by omega
    subst e
    exact ⟨m, h2, h3, rfl⟩
  | succ k ih =>
    intro i m h1 h2 h3
    have hi : i < Y.length := by omega
    have h5 : i < 5 := by omega
    have hwr : IntKind.wrap .i64 ((i : Int) + 1) = (i : Int) + 1 := wrap_id (by omega) (by omega)
    have hb := hY.at hi
    have hwi := hw i hi
    obtain ⟨w, a1, a2⟩ := slice_sl (k := 1) hb (fun _ => rfl) (j := min ((gth Y i).length : Int) 8) (by omega) (by omega)
    have e1 := take_min (gth Y i) 8
    simp only [Int.cast_ofNat_Int] at e1
    rw [e1] at a2
    have ha := appB a2 (by simp; omega)
    have hcl : ((cutF Y i).map rowBV).length = i := by simp [cutF_len]; omega
    have hc : (cutF Y (i + 1)).map rowBV = (cutF Y i).map rowBV ++ [rowBV ((gth Y i).take 8)] := by rw [cutF_succ hi]; simp
    obtain ⟨m', j1, j2, j3⟩ := ih (i + 1) ⟨upd m.h 0 (some (.cells ((cutF Y (i + 1)).map rowBV))), m.nx + 17⟩ (by omega) (by simp) (by show 0 < m.nx + 17; omega)
    refine ⟨m', j1, j2, ?_⟩
    simp only [Int.natCast_add, Int.cast_ofNat_Int] at j3
    have o1 : (rowBV ((gth Y i).take 8)).one = true := rfl
    have o2 : (rowBV ((gth Y i).take 8)).closed = true := rfl
    have o3 : (rowBV ((gth Y i).take 8)).cells = [rowBV ((gth Y i).take 8)] := rfl
    generalize rowBV ((gth Y i).take 8) = rv at ha hc o1 o2 o3
    generalize (cutF Y i).map rowBV = X at h2 hcl hc
    generalize (cutF Y (i + 1)).map rowBV = X' at hc j3
    rw [← j3, l09_WatchFlags.L0_eq]
    simp [hY.len, hi, show (i : Int) ≤ 4 by omega, hY.idx hi, hY.load hi, hb.len, a1, ha, o1, o2, o3, h2, hcl, hc, hwr, show i ≤ 4611686018427387903 by omega, show (i + 1) * 24 ≤ 70368744177664 by omega]
    done

theorem flags_runs {d : Nat} (a0 a1 : AV) (h0 : DatV prog (d + 4) 25 a0) (h1 : DatV prog (d + 4) 86 a1) : ∃ m', denC prog ann 15 [a0, a1] Mem.empty = some (.bool true, m') := by
  obtain ⟨D, N, hs, kD, kN⟩ := dat25 h0
  obtain ⟨cy, Y, hY, kY, kw⟩ := datV86 (d := d + 1) h1
  obtain ⟨v, ht, hc⟩ := cut_spec hs kD kN
  generalize hD' : D.take 5 = D' at ht
  generalize hN' : N.take 25 = N' at ht
  have l1 : D'.length ≤ 5 := by rw [← hD']; simp; omega
  have l2 : N'.length ≤ 25 := by rw [← hN']; simp; omega
  have hF := vec_of (R := IsBools) (g := rowBV) rowBV_is (fun _ => rfl) false (cutF Y (min 5 Y.length))
  have hFl : (cutF Y (min 5 Y.length)).length = min 5 Y.length := by rw [cutF_len]; omega
  obtain ⟨x, e, hx, ex⟩ := firstV_spec ht (by omega) (by omega) hF (by omega)
  obtain ⟨y, e', hy, ey⟩ := lastV_spec ht (by omega) (by omega) hF (by omega)
  obtain ⟨b, hb, eb⟩ := valid_spec ht (by omega) (by omega)
  have ht' := ht
  obtain ⟨wD, wN, rfl, g1, g2⟩ := ht.ex
  obtain ⟨vD, vN, rfl, f1, f2⟩ := hs.ex
  obtain ⟨m1, p1, p2, p3⟩ := cutF_loop (x5 := .fptr [wD, wN]) hY kw [.code l09_WatchFlags.r6, .code l09_WatchFlags.r7, .code l09_WatchFlags.r8, .code l09_WatchFlags.r9, .code l09_WatchFlags.i1, .code l09_WatchFlags.r17, .code .ret] (min 5 Y.length) 0 ⟨upd (upd Mem.empty.h 0 (some (.cells []))) 1 none, 2⟩ (by omega) (by simp [cutF]) (by show 0 < 2; omega)
  have hFl2 : ((cutF Y (min 5 Y.length)).map rowBV).length = min 5 Y.length := by simp [hFl]
  have hcl2 : closedL ((cutF Y (min 5 Y.length)).map rowBV) = true := hF.cl
  rw [hFl] at ex ey hF
  generalize hF0 : cutF Y (min 5 Y.length) = F at *
  generalize hk : min 5 Y.length = k at *
  have htk : (F.map rowBV).take k = F.map rowBV := List.take_of_length_le (by omega)
  generalize F.map rowBV = X at *
  have hex : ¬ ((k : Int) < Y.length ∧ (k : Int) ≤ 4) := by omega
  refine ⟨Mem.empty, ?_⟩
  rw [l09_WatchFlags.call_eq _ _ _ (by simp [f1.closed, f2.closed, hY.closed])]
  simp only [Int.cast_ofNat_Int, Int.ofNat_zero] at p3
  have e0 : ∀ m : Mem, den prog ann 15 [.code l09_WatchFlags.b] ⟨[(0, .agg [vD, vN]), (1, a1)], 108, Mem.empty⟩ = l09_WatchFlags.L0 a1 (.fptr [wD, wN]) (.sl 0 1 0 k k) (.int .i64 k) m1 [.code l09_WatchFlags.r6, .code l09_WatchFlags.r7, .code l09_WatchFlags.r8, .code l09_WatchFlags.r9, .code l09_WatchFlags.i1, .code l09_WatchFlags.r17, .code .ret] := by
    intro m
    rw [← p3]
    simp [f1.one, f2.one, f1.closed, f2.closed, g1.one, g2.one, g1.closed, g2.closed, hc]
    done
  rw [e0 Mem.empty, l09_WatchFlags.L0_eq]
  clear e0 p3
  have q0 : (decide ((k : Int) < Y.length) = false) ∨ (decide ((k : Int) < Y.length) = true ∧ decide ((k : Int) ≤ 4) = false) := by
    by_cases q : (k : Int) < Y.length
    · exact .inr ⟨decide_eq_true q, decide_eq_false (by omega)⟩
    · exact .inl (decide_eq_false q)
  have e1 : l09_WatchFlags.L0 a1 (.fptr [wD, wN]) (.sl 0 1 0 k k) (.int .i64 k) m1 [.code l09_WatchFlags.r6, .code l09_WatchFlags.r7, .code l09_WatchFlags.r8, .code l09_WatchFlags.r9, .code l09_WatchFlags.i1, .code l09_WatchFlags.r17, .code .ret] = some (.bool true, Mem.empty) := by
    have q1 : (k < Y.length) = False ∨ ((k < Y.length) = True ∧ ¬ (k : Int) ≤ 4) := by
      by_cases q : k < Y.length
      · exact .inr ⟨eq_true q, by omega⟩
      · exact .inl (eq_false q)
    cases b with
    | false =>
      have hvd : ¬ ValidS D' N' := fun v => by have := hb.2 v; cases this
      cases hx with
      | bad _ =>
        cases hy with
        | bad _ =>
          rw [l09_WatchFlags.L0_eq]
          rcases q1 with q1 | ⟨q1, q2⟩
          · simp [g1.one, g2.one, g1.closed, g2.closed, g1.deep, g2.deep, hY.len, q1, p1, hFl2, hcl2, htk, ex, ey, eb, lives_spec]
            done
          · simp [g1.one, g2.one, g1.closed, g2.closed, g1.deep, g2.deep, hY.len, q1, q2, p1, hFl2, hcl2, htk, ex, ey, eb, lives_spec]
            done
        | form v _ => exact absurd v hvd
        | none v _ _ => exact absurd v hvd
        | ok v _ _ _ => exact absurd v hvd
      | form v _ => exact absurd v hvd
      | none v _ _ => exact absurd v hvd
      | ok v _ _ _ => exact absurd v hvd
    | true =>
      have hvd : ValidS D' N' := hb.1 rfl
      have hfr := flagsR_spec ht' hF (by omega) (fun h => ⟨hvd.lo h, hvd.hi h⟩)
      cases hq : flagsB D' F with
      | false =>
        rw [hq] at hfr
        have hnf : ¬ FlagsOk D' F := fun h => by rw [flagsB_iff.2 h] at hq; cases hq
        cases hx with
        | bad h => exact absurd hvd h
        | none _ h _ => exact absurd h hnf
        | ok _ h _ _ => exact absurd h hnf
        | form _ _ =>
          cases hy with
          | bad h => exact absurd hvd h
          | none _ h _ => exact absurd h hnf
          | ok _ h _ _ => exact absurd h hnf
          | form _ _ =>
            rw [l09_WatchFlags.L0_eq]
            rcases q1 with q1 | ⟨q1, q2⟩
            · simp [g1.one, g2.one, g1.closed, g2.closed, g1.deep, g2.deep, hY.len, q1, p1, hFl2, hcl2, htk, ex, ey, eb, hfr, lives_spec]
              done
            · simp [g1.one, g2.one, g1.closed, g2.closed, g1.deep, g2.deep, hY.len, q1, q2, p1, hFl2, hcl2, htk, ex, ey, eb, hfr, lives_spec]
              done
      | true =>
        rw [hq] at hfr
        have hf := flagsB_iff.1 hq
        have hcf := cuts_few (N := N') hvd.lims
        have hyr := yesR_spec ht' hvd hF hf (by omega)
        have hylen : (yesL D' N' F).length ≤ 2401 := Nat.le_trans (List.length_filter_le _ _) hcf
        cases hx with
        | bad h => exact absurd hvd h
        | form _ h => exact absurd hf h
        | none _ _ he =>
          cases hy with
          | bad h => exact absurd hvd h
          | form _ h => exact absurd hf h
          | ok _ _ h _ => exact absurd he h
          | none _ _ _ =>
            rw [he] at hyr
            rw [l09_WatchFlags.L0_eq]
            rcases q1 with q1 | ⟨q1, q2⟩
            · simp [g1.one, g2.one, g1.closed, g2.closed, g1.deep, g2.deep, hY.len, q1, p1, hFl2, hcl2, htk, ex, ey, eb, hfr, hyr, lives_spec]
              done
            · simp [g1.one, g2.one, g1.closed, g2.closed, g1.deep, g2.deep, hY.len, q1, q2, p1, hFl2, hcl2, htk, ex, ey, eb, hfr, hyr, lives_spec]
              done
        | ok _ _ he ix =>
          cases hy with
          | bad h => exact absurd hvd h
          | form _ h => exact absurd hf h
          | none _ _ h => exact absurd h he
          | ok _ _ _ iy =>
            rw [foldL_first] at ix
            rw [foldL_last] at iy
            have hr : ∀ z ∈ yesL D' N' F, z.length = D'.length := fun z hz => cutsL_row (List.mem_filter.1 hz).1
            obtain ⟨v1, j1, k1⟩ := firstR_spec (IsSl.fsl (f := rowC) false (yesL D' N' F)) hr (by omega) (by omega)
            obtain ⟨v2, j2, k2⟩ := lastR_spec (IsSl.fsl (f := rowC) false (yesL D' N' F)) hr (by omega) (by omega)
            have n1 := (firstL_spec he hr).1
            have n2 := (lastL_spec he hr).1
            have s1 := same_spec ix j1 (by omega) (by omega)
            have s2 := same_spec iy j2 (by omega) (by omega)
            have hpos : 0 < (yesL D' N' F).length := List.length_pos_iff.2 he
            generalize yesL D' N' F = L at hyr k1 k2 hpos
            rw [l09_WatchFlags.L0_eq]
            rcases q1 with q1 | ⟨q1, q2⟩
            · simp [g1.one, g2.one, g1.closed, g2.closed, g1.deep, g2.deep, hY.len, q1, p1, hFl2, hcl2, htk, ex, ey, eb, hfr, hyr, lives_spec, hpos, k1, k2, s1, s2, ix.closed, iy.closed, j1.closed, j2.closed]
              done
            · simp [g1.one, g2.one, g1.closed, g2.closed, g1.deep, g2.deep, hY.len, q1, q2, p1, hFl2, hcl2, htk, ex, ey, eb, hfr, hyr, lives_spec, hpos, k1, k2, s1, s2, ix.closed, iy.closed, j1.closed, j2.closed]
              done
  rw [l09_WatchFlags.L0_eq] at e1
  rw [e1]
  simp
end Go.Proofs.Ytdkmepjedjclkaa
