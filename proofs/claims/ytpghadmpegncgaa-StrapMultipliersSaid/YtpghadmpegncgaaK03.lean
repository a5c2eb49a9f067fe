/-
  STRAPS (28): the specification's least set. Conditions: none.
-/
import Derived.Test.YtpghadmpegncgaaK02
import Derived.Test.YtpghadmpegncgaaKAmE
import Derived.Test.YtpghadmpegncgaaKAmH
set_option linter.all false
namespace Go.Proofs.Ytpghadmpegncgaa
open Go.AM
open Go.Proofs.Try (prog)
set_option linter.all false
set_option maxRecDepth 100000
set_option maxHeartbeats 4000000

theorem rc_in {w : AV} {v t : Nat} {l : List Int} (hv : IsInts w l) (s' : RingOk v l) (ht : t < v) (hg : Nat.gcd t v = 1) (K : List Item) : ∀ (k s : Nat) (best : List Int) (bv : AV) (m : Mem), s + k = v → IsInts bv best → best.length = l.length →
    ∃ bv', IsInts bv' (cF v t l k s best) ∧ r04_Canon.L2 (.int .i64 v) w bv (.int .i64 t) (.int .i64 s) m (.inBlock 1 :: .code r04_Canon.r4 :: .inLoop r04_Canon.l0 :: .inBlock 0 :: K) =
      r04_Canon.L0 (.int .i64 v) w bv' (.int .i64 ((t : Int) + 1)) m K := by
  intro k
  have hfew := s'.few
  have hv2 := s'.v2
  have hv31 := s'.v31
  have hgs := fun m => gcd_spec t v m
  rw [hg] at hgs
  have hwt : IntKind.wrap .i64 ((t : Int) + 1) = (t : Int) + 1 := wrap_id (by omega) (by omega)
  induction k with
  | zero =>
    intro s best bv m h1 hb hl
    have e : s = v := by omega
    subst e
    refine ⟨bv, hb, ?_⟩
    rw [r04_Canon.L2_eq]
    simp [hwt]
    done
  | succ k ih =>
    intro s best bv m h1 hb hl
    have hs : s < v := by omega
    have hw : IntKind.wrap .i64 ((s : Int) + 1) = (s : Int) + 1 := wrap_id (by omega) (by omega)
    have htn := fun m => turned_spec (v := v) (t := (t : Int)) (s := (s : Int)) hv hfew s'.rng31 (by omega) (by omega) (by omega) m
    rw [tur_mv s' hg (by omega), mvL_len] at htn
    have hml := mvL_len v t s l
    have hmi : IsInts (.fsl false l.length (ints (mvL v t s l))) (mvL v t s l) := .inr ⟨false, by rw [hml]⟩
    have hc := fun m => before_spec hmi hb (by omega) m
    rw [cF_succ]
    cases q : lexLt (mvL v t s l) best with
    | true =>
      rw [q] at hc
      have e : cStep v t l best s = mvL v t s l := if_pos q
      rw [e]
      obtain ⟨bv', g1, g2⟩ := ih (s + 1) (mvL v t s l) _ m (by omega) hmi hml
      simp only [Int.natCast_add, Int.cast_ofNat_Int] at g2
      refine ⟨bv', g1, ?_⟩
      rw [← g2, r04_Canon.L2_eq]
      simp [hs, hgs, hv.closed, htn, hb.closed, hc, hw]
      done
    | false =>
      rw [q] at hc
      have e : cStep v t l best s = best := if_neg (by rw [q]; decide)
      rw [e]
      obtain ⟨bv', g1, g2⟩ := ih (s + 1) best bv m (by omega) hb hl
      simp only [Int.natCast_add, Int.cast_ofNat_Int] at g2
      refine ⟨bv', g1, ?_⟩
      rw [← g2, r04_Canon.L2_eq]
      simp [hs, hgs, hv.closed, htn, hb.closed, hc, hw]
      done
theorem rc_skip {w bv : AV} {v t : Nat} (hv : 0 < v) (ht : t < v) (hv31 : v ≤ 31) (hg : ¬ Nat.gcd t v = 1) (m : Mem) (K : List Item) :
    r04_Canon.L2 (.int .i64 v) w bv (.int .i64 t) (.int .i64 0) m (.inBlock 1 :: .code r04_Canon.r4 :: .inLoop r04_Canon.l0 :: .inBlock 0 :: K) = r04_Canon.L0 (.int .i64 v) w bv (.int .i64 ((t : Int) + 1)) m K := by
  have hgs := fun m => gcd_spec t v m
  have hg' : ¬ ((Nat.gcd t v : Nat) : Int) = 1 := by omega
  have hwt : IntKind.wrap .i64 ((t : Int) + 1) = (t : Int) + 1 := wrap_id (by omega) (by omega)
  rw [r04_Canon.L2_eq]
  simp [hv, hgs, hg', hg, hwt]
  done
theorem cT_succ (v : Nat) (l best : List Int) (k t : Nat) : cT v l (uniF v (k + 1) t) best = if Nat.gcd t v = 1 then cT v l (uniF v k (t + 1)) (cF v t l v 0 best) else cT v l (uniF v k (t + 1)) best := by
  rw [uniF_succ]
  split <;> rfl
theorem rc_out {w : AV} {v : Nat} {l : List Int} (hv : IsInts w l) (s' : RingOk v l) : ∀ (k t : Nat) (best : List Int) (bv : AV) (m : Mem), t + k = v → IsInts bv best → best.length = l.length →
    ∃ w', IsInts w' (cT v l (uniF v k t) best) ∧ r04_Canon.L0 (.int .i64 v) w bv (.int .i64 t) m [.code r04_Canon.r11, .code .ret] = some (w', Mem.empty) := by
  intro k
  have hfew := s'.few
  have hv2 := s'.v2
  have hv31 := s'.v31
  induction k with
  | zero =>
    intro t best bv m h1 hb hl
    have e : t = v := by omega
    subst e
    obtain ⟨w', k1, k2⟩ := app_ints hb (by omega)
    refine ⟨w', k2, ?_⟩
    rw [r04_Canon.L0_eq]
    simp [k1, k2.deep]
    done
  | succ k ih =>
    intro t best bv m h1 hb hl
    have ht : t < v := by omega
    rw [cT_succ]
    by_cases hg : Nat.gcd t v = 1
    · rw [if_pos hg]
      obtain ⟨bv', g1, g2⟩ := rc_in hv s' ht hg [.code r04_Canon.r11, .code .ret] v 0 best bv m (by omega) hb hl
      simp only [Int.ofNat_zero, Int.cast_ofNat_Int] at g2
      obtain ⟨w', k1, k2⟩ := ih (t + 1) _ bv' m (by omega) g1 (cF_len hl)
      simp only [Int.natCast_add, Int.cast_ofNat_Int] at k2
      refine ⟨w', k1, ?_⟩
      rw [← k2, ← g2, r04_Canon.L0_eq]
      simp [ht]
      done
    · rw [if_neg hg]
      have g2 := rc_skip (w := w) (bv := bv) (v := v) (t := t) (by omega) ht (by omega) hg m [.code r04_Canon.r11, .code .ret]
      obtain ⟨w', k1, k2⟩ := ih (t + 1) best bv m (by omega) hb hl
      simp only [Int.natCast_add, Int.cast_ofNat_Int] at k2
      refine ⟨w', k1, ?_⟩
      rw [← k2, ← g2, r04_Canon.L0_eq]
      simp [ht]
      done
theorem canonL_eq {v : Nat} (hv : 2 ≤ v) (l : List Int) : canonL v l = cT v l (uniF v (v - 1) 1) l := by
  obtain ⟨n, rfl⟩ : ∃ n, v = n + 1 := ⟨v - 1, by omega⟩
  show cT (n + 1) l (uniF (n + 1) (n + 1) 0) l = _
  rw [cT_succ, if_neg (fun x => by rw [Nat.gcd_zero_left] at x; omega)]
  rfl
theorem rcanon_spec {w : AV} {v : Nat} {l : List Int} (hv : IsInts w l) (s : RingOk v l) : ∃ w', IsInts w' (canonL v l) ∧ ∀ m, denC prog ann 37 [.int .i64 v, w] m = some (w', m) := by
  have hcl : closedL [.int .i64 v, w] = true := by simp [hv.closed]
  have hv2 := s.v2
  obtain ⟨w', h1, h2⟩ := rc_out hv s (v - 1) 1 l w Mem.empty (by omega) hv rfl
  rw [← canonL_eq (by omega)] at h1
  simp only [Int.cast_ofNat_Int] at h2
  refine ⟨w', h1, fun m => ?_⟩
  rw [r04_Canon.call_eq _ _ _ hcl]
  simp [h2]
  done
end Go.Proofs.Ytpghadmpegncgaa

/-
  THE LAWS' EXAMPLES HOLD. Conditions: none.
-/
namespace Go.Proofs.Ytpghadmpegncgaa
open Go.AM
open Go.Proofs.Try (prog)
set_option linter.all false
set_option maxRecDepth 1000000

def isT (r : Option Res) : Bool := match r with
  | some (.bool b, _) => b
  | _ => false
theorem lives_run : isT (callN prog ann 3000 14 [] Mem.empty) = true := by kernel_rfl
@[simp] theorem lives_pure : (ann 14).pure = true := by kernel_rfl
theorem f14_at : prog.funcs[14]? = some Try.f14 := by kernel_rfl
theorem f14_some : Try.f14.body.isSome = true := by kernel_rfl
theorem lives_spec (m : Mem) : denC prog ann 14 [] m = some (.bool true, m) := by
  have hb : Try.f14.body = some (Try.f14.body.getD .skip) := by
    cases h : Try.f14.body with
    | none => have := f14_some; rw [h] at this; cases this
    | some b => rfl
  have e := fun m => denC_pure (P := prog) (A := ann) (f := 14) f14_at hb (by kernel_rfl) (by kernel_rfl) (show closedL [] = true from rfl) m
  have h := lives_run
  cases hr : callN prog ann 3000 14 [] Mem.empty with
  | none => rw [hr] at h; cases h
  | some r =>
    rw [hr] at h
    have h2 := denC_of_callN hr
    rw [e] at h2 ⊢
    obtain ⟨q, h3, h4⟩ := Option.bind_eq_some_iff.1 h2
    rw [h3]
    simp at h4
    subst h4
    match q, h with
    | (.bool true, _), _ => rfl
end Go.Proofs.Ytpghadmpegncgaa

/-
  StrapMultipliers: the law answers true. Conditions: none.
-/
namespace Go.Proofs.Ytpghadmpegncgaa
open Go.AM
open Go.Proofs.Try (prog)
set_option linter.all false
set_option maxRecDepth 100000
set_option maxHeartbeats 4000000

theorem cT_len {v : Nat} {l : List Int} : ∀ {T best : List Int}, best.length = l.length → (cT v l T best).length = l.length
  | [], _, h => h
  | t :: T, best, h => cT_len (T := T) (best := cF v t l v 0 best) (cF_len h)
theorem mul_runs {d : Nat} (a0 a1 : AV) (h0 : DatV prog (d + 4) 3 a0) (h1 : DatV prog (d + 4) 22 a1) : ∃ m', denC prog ann 10 [a0, a1] Mem.empty = some (.bool true, m') := by
  obtain ⟨v, rfl, _, _⟩ := datV3 h0
  obtain ⟨l0, hl0, kl⟩ := datV22 h1
  obtain ⟨w, hv, hcut⟩ := cut_spec hl0
  have hlen : (l0.take 41).length ≤ 41 := by simp; omega
  generalize l0.take 41 = l at *
  obtain ⟨e, he, hr, hs⟩ := ring_set hv (by omega) v
  have hcl : closedL [.int .i64 v, a1] = true := by simp [hl0.closed]
  refine ⟨Mem.empty, ?_⟩
  rw [l04_StrapMultipliers.call_eq _ _ _ hcl]
  by_cases q : e = 0
  · subst q
    have s : RingOk v l := by cases he; assumption
    have hv2 := s.v2
    have hv31 := s.v31
    have hfew := s.few
    obtain ⟨n, rfl⟩ : ∃ n : Nat, v = n := ⟨v.toNat, by omega⟩
    have hm1 := fun m => mults_spec hv s hr m
    have hm2 := fun m => rmults_spec hv s m
    obtain ⟨w1, i1, c1⟩ := Canon_spec hv s hr
    obtain ⟨w2, i2, c2⟩ := rcanon_spec hv s
    have i3 := intsV_is (multsL n l)
    have hml : (multsL n l).length ≤ n := Nat.le_trans (List.length_filter_le _ _) (unitsL_few n)
    have hcn : (canonL n l).length = l.length := cT_len rfl
    have h1 := fun m => same_spec (va := intsV (multsL n l)) (vb := .fsl false (multsL n l).length (ints (multsL n l))) i3 (.inr ⟨false, rfl⟩) (by omega) (by omega) m
    have h2 := fun m => same_spec i1 i2 (by omega) (by omega) m
    rw [decide_eq_true rfl] at h1 h2
    simp [hl0.closed, hcut, hv.closed, hm1, hm2, c1, c2, hs, i1.closed, i2.closed, i3.closed, h1, h2, lives_spec]
    done
  · simp [hl0.closed, hcut, hv.closed, mults_bad hv hr q, Canon_bad hv hr q, hs, q, lives_spec]
    done
end Go.Proofs.Ytpghadmpegncgaa
