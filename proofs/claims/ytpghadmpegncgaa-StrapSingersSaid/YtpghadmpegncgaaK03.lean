/-
  BODIES OF FUNCTIONS OF THE PROGRAM AS SMALL OPERATIONS (written by gen.py; checked by the kernel against the program). Conditions: none.
-/
import Derived.Test.YtpghadmpegncgaaKAmH
import Derived.Test.YtpghadmpegncgaaK02
import Derived.Test.YtpghadmpegncgaaK01
import Derived.Test.YtpghadmpegncgaaK00
import Derived.Test.YtpghadmpegncgaaKAmE
set_option linter.all false
namespace Go.Proofs.Ytpghadmpegncgaa
open Go.AM
open Go.Proofs.Try (prog)
set_option maxRecDepth 100000
set_option linter.all false

namespace cmp_isNaN_int
/-- cmp.isNaNint -/
noncomputable def b : Code := (Try.f85.body).getD .skip
theorem hf : prog.funcs[85]? = some Try.f85 := by kernel_rfl
noncomputable def r0 : Code := findReg b 0
noncomputable def r1 : Code := findReg b 1
theorem b_eq (K : List Item) (s : St) : den prog ann 85 (.code b :: K) s = den prog ann 85 (.code r0 :: .code r1 :: .code .ret :: K) s := den_flat hf (l := [r0, r1, .ret]) (by kernel_rfl) K s
theorem r0_eq (K : List Item) (s : St) : den prog ann 85 (.code r0 :: K) s = mreg prog ann 85 none [] none [] [
    ⟨some 2, none, .v fun s => some (.bool false)⟩] K s := (den_reg hf _ K s).trans (by kernel_rfl)
theorem r1_eq (K : List Item) (s : St) : den prog ann 85 (.code r1 :: K) s = mreg prog ann 85 none [] none [] [
    ⟨some 3, none, .v fun s => some (s.get 0)⟩,
    ⟨some 4, none, .v fun s => some (s.get 0)⟩,
    ⟨some 5, none, .v fun s => binA prog .neq 3 (s.get 3) (s.get 4)⟩,
    ⟨some 2, none, .v fun s => some (s.get 5)⟩] K s := (den_reg hf _ K s).trans (by kernel_rfl)
theorem ret_eq (K : List Item) (s : St) : den prog ann 85 (.code .ret :: K) s = finM true [fun s => some (s.get 2)] s := (den_ret hf K s).trans (by kernel_rfl)
theorem nil_eq (s : St) : den prog ann 85 [] s = finM true [fun s => some (s.get 2)] s := (den_nil hf s).trans (by kernel_rfl)
theorem inBlock_eq (id : Nat) (K : List Item) (s : St) : den prog ann 85 (.inBlock id :: K) s = den prog ann 85 K s := den_inBlock hf id K s
theorem exit_eq (id : Nat) (K : List Item) (s : St) : den prog ann 85 (.code (.exit id) :: K) s = exitV prog ann 85 (exitTo id K) s := den_exitV hf id K s
theorem call_eq (v0 : AV) (m : Mem) (h : closedL [v0] = true) : denC prog ann 85 [v0] m = (den prog ann 85 [.code b] ⟨[(0, v0)], 6, Mem.empty⟩).bind fun r => some (r.1, m) := (denC_pure hf (b := b) (by kernel_rfl) (by kernel_rfl) (by kernel_rfl) h m).trans (by kernel_rfl)
theorem pure_eq : (ann 85).pure = true := by kernel_rfl
attribute [simp] b_eq r0_eq r1_eq ret_eq nil_eq inBlock_eq exit_eq pure_eq
end cmp_isNaN_int
end Go.Proofs.Ytpghadmpegncgaa

/-
  STRAPS (26): slices.Compare. Conditions: none.
-/
namespace Go.Proofs.Ytpghadmpegncgaa
open Go.AM
open Go.Proofs.Try (prog)
set_option linter.all false
set_option maxRecDepth 100000
set_option maxHeartbeats 4000000

theorem nan_spec (x : Int) (m : Mem) : denC prog ann 85 [.int .i64 x] m = some (.bool false, m) := by
  rw [cmp_isNaN_int.call_eq _ _ rfl]
  simp
  done
def cmpI (x y : Int) : Int := if x < y then -1 else if y < x then 1 else 0
theorem cmp_spec (x y : Int) (m : Mem) : denC prog ann 73 [.int .i64 x, .int .i64 y] m = some (.int .i64 (cmpI x y), m) := by
  rw [cmp_Compare_int.call_eq _ _ _ rfl]
  unfold cmpI
  by_cases q : x < y
  · simp [nan_spec, q]
    done
  · by_cases q2 : y < x
    · simp [nan_spec, q, q2]
      done
    · simp [nan_spec, q, q2]
      done
def cmpV (a b : List Int) : Int := if lexLt a b = true then -1 else if a = b then 0 else 1
theorem com_loop {wa wb : AV} {a b : List Int} (ha : IsInts wa a) (hb : IsInts wb b) (hl : a.length = b.length) (hl2 : a.length ≤ 1000) : ∀ (k i : Nat) (m : Mem), i + k = a.length →
    slices_Compare_int.L0 wa wb wa (.int .i64 a.length) (.int .i64 i) m [.code slices_Compare_int.r11, .code slices_Compare_int.i3, .code slices_Compare_int.r13, .code .ret] = some (.int .i64 (cmpV (a.drop i) (b.drop i)), Mem.empty) := by
  intro k
  have hl3 := hb.len
  rw [← hl] at hl3
  induction k with
  | zero =>
    intro i m h1
    have e1 : a.drop i = [] := List.drop_of_length_le (by omega)
    have e2 : b.drop i = [] := List.drop_of_length_le (by omega)
    have e : i = a.length := by omega
    rw [e1, e2, e, slices_Compare_int.L0_eq]
    simp [ha.len, hl3, cmpV, lexLt]
    done
  | succ k ih =>
    intro i m h1
    have hi : i < a.length := by omega
    have hi2 : ¬ (a.length : Int) ≤ i := by omega
    have hi3 : ¬ a.length ≤ i := by omega
    have hj : i < b.length := by omega
    have hw : IntKind.wrap .i64 ((i : Int) + 1) = (i : Int) + 1 := wrap_id (by omega) (by omega)
    have hst := fun m => ih (i + 1) m (by omega)
    simp only [Int.natCast_add, Int.cast_ofNat_Int] at hst
    have a1 := ha.idx hi .i64
    have a2 := ints_head hi
    have b1 := hb.idx hj .i64
    have b2 := ints_head hj
    rw [slices_Compare_int.L0_eq]
    by_cases q : nth a i = nth b i
    · have e : cmpV (a.drop i) (b.drop i) = cmpV (a.drop (i + 1)) (b.drop (i + 1)) := by
        rw [cmpV, cmpV, lexLt_drop hi hj, if_pos q, drop_nth hi, drop_nth hj, q]; simp
      have hc : cmpI (nth a i) (nth b i) = 0 := by rw [q, cmpI, if_neg (by omega), if_neg (by omega)]
      rw [e]
      simp [hi, hi2, hi3, hl3, a1, a2, b1, b2, cmp_spec, hc, hw, hst]
      done
    · have hc : cmpI (nth a i) (nth b i) ≠ 0 := by
        unfold cmpI; split
        · decide
        · split
          · decide
          · omega
      have e : cmpV (a.drop i) (b.drop i) = cmpI (nth a i) (nth b i) := by
        rw [cmpV, lexLt_drop hi hj, if_neg q, cmpI]
        by_cases q2 : nth a i < nth b i
        · rw [if_pos (by simpa using q2), if_pos q2]
        · rw [if_neg (by simpa using q2), if_neg q2, if_neg (show ¬ a.drop i = b.drop i by rw [drop_nth hi, drop_nth hj]; simp [q]), if_pos (show nth b i < nth a i by omega)]
      rw [e]
      simp [hi, hi2, hi3, hl3, a1, a2, b1, b2, cmp_spec, hc]
      done
theorem compare_spec {wa wb : AV} {a b : List Int} (ha : IsInts wa a) (hb : IsInts wb b) (hl : a.length = b.length) (hl2 : a.length ≤ 1000) (m : Mem) : denC prog ann 70 [wa, wb] m = some (.int .i64 (cmpV a b), m) := by
  have lp := com_loop ha hb hl hl2 a.length 0 Mem.empty (by omega)
  simp only [Int.ofNat_zero, Int.cast_ofNat_Int, List.drop_zero] at lp
  rw [slices_Compare_int.call_eq _ _ _ (by simp [ha.closed, hb.closed])]
  simp [ha.len, lp]
  done
theorem cmpV_neg (a b : List Int) : cmpV a b < 0 ↔ lexLt a b = true := by
  unfold cmpV
  split
  · simp [*]
  · split <;> simp [*, lexLt_irr]
end Go.Proofs.Ytpghadmpegncgaa

/-
  STRAPS (27): the least set that a set becomes. Conditions: none.
-/
namespace Go.Proofs.Ytpghadmpegncgaa
open Go.AM
open Go.Proofs.Try (prog)
set_option linter.all false
set_option maxRecDepth 100000
set_option maxHeartbeats 4000000

def cStep (v : Nat) (t : Int) (l best : List Int) (s : Nat) : List Int := if lexLt (mvL v t (s : Int) l) best = true then mvL v t (s : Int) l else best
def cF (v : Nat) (t : Int) (l : List Int) (k s : Nat) (best : List Int) : List Int := (List.range' s k).foldl (cStep v t l) best
theorem cF_succ (v : Nat) (t : Int) (l : List Int) (k s : Nat) (best : List Int) : cF v t l (k + 1) s best = cF v t l k (s + 1) (cStep v t l best s) := by simp [cF, List.range'_succ]
theorem cStep_len {v : Nat} {t : Int} {l best : List Int} {s : Nat} (h : best.length = l.length) : (cStep v t l best s).length = l.length := by
  unfold cStep; split
  · exact mvL_len ..
  · exact h
theorem cF_len {v : Nat} {t : Int} {l : List Int} : ∀ {k s : Nat} {best : List Int}, best.length = l.length → (cF v t l k s best).length = l.length
  | 0, _, _, h => h
  | k + 1, s, best, h => by rw [cF_succ]; exact cF_len (cStep_len h)
theorem can_in {w uw : AV} {v : Nat} {l : List Int} (hv : IsInts w l) (s' : RingOk v l) {t : Int} (ht : 0 ≤ t ∧ t ≤ 31) (ulen i : Int) (hi : I64 (i + 1)) (K : List Item) : ∀ (k s : Nat) (best : List Int) (bv : AV) (m : Mem), s + k = v → IsInts bv best → best.length = l.length →
    ∃ bv', IsInts bv' (cF v t l k s best) ∧ strap_canon.L2 (.int .i64 v) w bv (.int .i64 t) uw (.int .i64 ulen) (.int .i64 i) (.int .i64 v) (.int .i64 s) m (.inBlock 1 :: .code strap_canon.r12 :: .inLoop strap_canon.l0 :: .inBlock 0 :: K) =
      strap_canon.L0 (.int .i64 v) w bv' uw (.int .i64 ulen) (.int .i64 (i + 1)) m K := by
  intro k
  have hfew := s'.few
  have hpos := s'.pos
  have hv2 := s'.v2
  have hv31 := s'.v31
  have hwi : IntKind.wrap .i64 (i + 1) = i + 1 := wrap_id hi.1 (by have := hi.2; omega)
  induction k with
  | zero =>
    intro s best bv m h1 hb hl
    have e : s = v := by omega
    subst e
    refine ⟨bv, hb, ?_⟩
    rw [strap_canon.L2_eq]
    simp [hwi]
    done
  | succ k ih =>
    intro s best bv m h1 hb hl
    have hs : s < v := by omega
    have hw : IntKind.wrap .i64 ((s : Int) + 1) = (s : Int) + 1 := wrap_id (by omega) (by omega)
    have hm := fun m => moved_spec (v := (v : Int)) (t := t) (s := (s : Int)) hv hfew hpos s'.rng31 (by omega) ht (by omega) m
    have hml := mvL_len v t s l
    have hmi : IsInts (.fsl false l.length (ints (mvL v t s l))) (mvL v t s l) := .inr ⟨false, by rw [hml]⟩
    have hc := fun m => compare_spec hmi hb (by omega) (by omega) m
    rw [cF_succ]
    by_cases q : lexLt (mvL v t s l) best = true
    · have e : cStep v t l best s = mvL v t s l := if_pos q
      have hn := (cmpV_neg _ _).2 q
      rw [e]
      obtain ⟨bv', g1, g2⟩ := ih (s + 1) (mvL v t s l) _ m (by omega) hmi hml
      simp only [Int.natCast_add, Int.cast_ofNat_Int] at g2
      refine ⟨bv', g1, ?_⟩
      rw [← g2, strap_canon.L2_eq]
      simp [hs, hv.closed, hm, hb.closed, hc, hn, hw]
      done
    · have e : cStep v t l best s = best := if_neg q
      have hn : ¬ cmpV (mvL v t s l) best < 0 := fun h => q ((cmpV_neg _ _).1 h)
      rw [e]
      obtain ⟨bv', g1, g2⟩ := ih (s + 1) best bv m (by omega) hb hl
      simp only [Int.natCast_add, Int.cast_ofNat_Int] at g2
      refine ⟨bv', g1, ?_⟩
      rw [← g2, strap_canon.L2_eq]
      simp [hs, hv.closed, hm, hb.closed, hc, hn, hw]
      done
def cT (v : Nat) (l : List Int) (T : List Int) (best : List Int) : List Int := T.foldl (fun b t => cF v t l v 0 b) best
theorem can_out {w uw : AV} {v : Nat} {l T : List Int} (hv : IsInts w l) (hu : IsInts uw T) (hT : ∀ i, i < T.length → 0 ≤ nth T i ∧ nth T i ≤ 31) (hTl : T.length ≤ 31) (s : RingOk v l) : ∀ (k i : Nat) (best : List Int) (bv : AV) (m : Mem), i + k = T.length → IsInts bv best → best.length = l.length →
    ∃ w', IsInts w' (cT v l (T.drop i) best) ∧ strap_canon.L0 (.int .i64 v) w bv uw (.int .i64 T.length) (.int .i64 i) m [.code strap_canon.r13, .code .ret] = some (w', Mem.empty) := by
  intro k
  have hfew := s.few
  have hpos := s.pos
  induction k with
  | zero =>
    intro i best bv m h1 hb hl
    have e : i = T.length := by omega
    subst e
    have e1 : T.drop T.length = [] := List.drop_of_length_le (by omega)
    rw [e1]
    rcases hb with ⟨rfl, rfl⟩ | ⟨ex, rfl⟩
    · simp at hl; omega
    · refine ⟨.fsl false best.length (ints best), .inr ⟨false, rfl⟩, ?_⟩
      obtain ⟨m', c1, c2, c3⟩ := clone_spec ex best (by omega) (by omega) m
      rw [strap_canon.L0_eq]
      simp [c3, c1]
      done
  | succ k ih =>
    intro i best bv m h1 hb hl
    have hi : i < T.length := by omega
    obtain ⟨bv', g1, g2⟩ := can_in (uw := uw) hv s (hT i hi) T.length i ⟨by omega, by omega⟩ [.code strap_canon.r13, .code .ret] v 0 best bv m (by omega) hb hl
    simp only [Int.ofNat_zero, Int.cast_ofNat_Int] at g2
    obtain ⟨w', k1, k2⟩ := ih (i + 1) (cF v (nth T i) l v 0 best) bv' m (by omega) g1 (cF_len hl)
    simp only [Int.natCast_add, Int.cast_ofNat_Int] at k2
    have e : cT v l (T.drop i) best = cT v l (T.drop (i + 1)) (cF v (nth T i) l v 0 best) := by rw [drop_nth hi]; rfl
    refine ⟨w', by rw [e]; exact k1, ?_⟩
    rw [← k2, ← g2, strap_canon.L0_eq]
    simp [hi, hu.idx hi, ints_head hi]
    done
def canonL (v : Nat) (l : List Int) : List Int := cT v l (unitsL v) l
theorem canon_spec {w : AV} {v : Nat} {l : List Int} (hv : IsInts w l) (s : RingOk v l) : ∃ w', IsInts w' (canonL v l) ∧ ∀ m, denC prog ann 63 [.int .i64 v, w] m = some (w', m) := by
  have hcl : closedL [.int .i64 v, w] = true := by simp [hv.closed]
  have hv31 := s.v31
  have hu := intsV_is (unitsL v)
  have hf := unitsL_few v
  obtain ⟨w', h1, h2⟩ := can_out hv hu (unitsL_rng (by omega)) (by omega) s (unitsL v).length 0 l w Mem.empty (by omega) hv rfl
  rw [List.drop_zero] at h1
  simp only [Int.ofNat_zero, Int.cast_ofNat_Int] at h2
  have hus := fun m => units_spec (v := v) (by omega) m
  refine ⟨w', h1, fun m => ?_⟩
  rw [strap_canon.call_eq _ _ _ hcl]
  simp [hus, hu.len, h2]
  done
end Go.Proofs.Ytpghadmpegncgaa

/-
  STRAPS (28): the specification's least set. Conditions: none.
-/
namespace Go.Proofs.Ytpghadmpegncgaa
open Go.AM
open Go.Proofs.Try (prog)
set_option linter.all false
set_option maxRecDepth 100000
set_option maxHeartbeats 4000000

theorem rc_in {w : AV} {v t : Nat} {l : List Int} (hv : IsInts w l) (s' : RingOk v l) (ht : t < v) (hg : Nat.gcd t v = 1) (K : List Item) : ∀ (k s : Nat) (best : List Int) (bv : AV) (m : Mem), s + k = v → IsInts bv best → best.length = l.length →
    ∃ bv', IsInts bv' (cF v t l k s best) ∧ r04_Canon.L2 (.int .i64 v) w bv (.int .i64 t) (.int .i64 s) m (.inBlock 1 :: .code r04_Canon.r4 :: .inLoop r04_Canon.l0 :: .inBlock 0 :: K) =
      r04_Canon.L0 (.int .i64 v) w bv' (.int .i64 ((t : Int) + 1)) m K := by
  intro k
  have hfew := s'.few
  have hv2 := s'.v2
  have hv31 := s'.v31
  have hgs := fun m => gcd_spec t v m
  rw [hg] at hgs
  have hwt : IntKind.wrap .i64 ((t : Int) + 1) = (t : Int) + 1 := wrap_id (by omega) (by omega)
  induction k with
  | zero =>
    intro s best bv m h1 hb hl
    have e : s = v := by omega
    subst e
    refine ⟨bv, hb, ?_⟩
    rw [r04_Canon.L2_eq]
    simp [hwt]
    done
  | succ k ih =>
    intro s best bv m h1 hb hl
    have hs : s < v := by omega
    have hw : IntKind.wrap .i64 ((s : Int) + 1) = (s : Int) + 1 := wrap_id (by omega) (by omega)
    have htn := fun m => turned_spec (v := v) (t := (t : Int)) (s := (s : Int)) hv hfew s'.rng31 (by omega) (by omega) (by omega) m
    rw [tur_mv s' hg (by omega), mvL_len] at htn
    have hml := mvL_len v t s l
    have hmi : IsInts (.fsl false l.length (ints (mvL v t s l))) (mvL v t s l) := .inr ⟨false, by rw [hml]⟩
    have hc := fun m => before_spec hmi hb (by omega) m
    rw [cF_succ]
    cases q : lexLt (mvL v t s l) best with
    | true =>
      rw [q] at hc
      have e : cStep v t l best s = mvL v t s l := if_pos q
      rw [e]
      obtain ⟨bv', g1, g2⟩ := ih (s + 1) (mvL v t s l) _ m (by omega) hmi hml
      simp only [Int.natCast_add, Int.cast_ofNat_Int] at g2
      refine ⟨bv', g1, ?_⟩
      rw [← g2, r04_Canon.L2_eq]
      simp [hs, hgs, hv.closed, htn, hb.closed, hc, hw]
      done
    | false =>
      rw [q] at hc
      have e : cStep v t l best s = best := if_neg (by rw [q]; decide)
      rw [e]
      obtain ⟨bv', g1, g2⟩ := ih (s + 1) best bv m (by omega) hb hl
      simp only [Int.natCast_add, Int.cast_ofNat_Int] at g2
      refine ⟨bv', g1, ?_⟩
      rw [← g2, r04_Canon.L2_eq]
      simp [hs, hgs, hv.closed, htn, hb.closed, hc, hw]
      done
theorem rc_skip {w bv : AV} {v t : Nat} (hv : 0 < v) (ht : t < v) (hv31 : v ≤ 31) (hg : ¬ Nat.gcd t v = 1) (m : Mem) (K : List Item) :
    r04_Canon.L2 (.int .i64 v) w bv (.int .i64 t) (.int .i64 0) m (.inBlock 1 :: .code r04_Canon.r4 :: .inLoop r04_Canon.l0 :: .inBlock 0 :: K) = r04_Canon.L0 (.int .i64 v) w bv (.int .i64 ((t : Int) + 1)) m K := by
  have hgs := fun m => gcd_spec t v m
  have hg' : ¬ ((Nat.gcd t v : Nat) : Int) = 1 := by omega
  have hwt : IntKind.wrap .i64 ((t : Int) + 1) = (t : Int) + 1 := wrap_id (by omega) (by omega)
  rw [r04_Canon.L2_eq]
  simp [hv, hgs, hg', hg, hwt]
  done
theorem cT_succ (v : Nat) (l best : List Int) (k t : Nat) : cT v l (uniF v (k + 1) t) best = if Nat.gcd t v = 1 then cT v l (uniF v k (t + 1)) (cF v t l v 0 best) else cT v l (uniF v k (t + 1)) best := by
  rw [uniF_succ]
  split <;> rfl
theorem rc_out {w : AV} {v : Nat} {l : List Int} (hv : IsInts w l) (s' : RingOk v l) : ∀ (k t : Nat) (best : List Int) (bv : AV) (m : Mem), t + k = v → IsInts bv best → best.length = l.length →
    ∃ w', IsInts w' (cT v l (uniF v k t) best) ∧ r04_Canon.L0 (.int .i64 v) w bv (.int .i64 t) m [.code r04_Canon.r11, .code .ret] = some (w', Mem.empty) := by
  intro k
  have hfew := s'.few
  have hv2 := s'.v2
  have hv31 := s'.v31
  induction k with
  | zero =>
    intro t best bv m h1 hb hl
    have e : t = v := by omega
    subst e
    obtain ⟨w', k1, k2⟩ := app_ints hb (by omega)
    refine ⟨w', k2, ?_⟩
    rw [r04_Canon.L0_eq]
    simp [k1, k2.deep]
    done
  | succ k ih =>
    intro t best bv m h1 hb hl
    have ht : t < v := by omega
    rw [cT_succ]
    by_cases hg : Nat.gcd t v = 1
    · rw [if_pos hg]
      obtain ⟨bv', g1, g2⟩ := rc_in hv s' ht hg [.code r04_Canon.r11, .code .ret] v 0 best bv m (by omega) hb hl
      simp only [Int.ofNat_zero, Int.cast_ofNat_Int] at g2
      obtain ⟨w', k1, k2⟩ := ih (t + 1) _ bv' m (by omega) g1 (cF_len hl)
      simp only [Int.natCast_add, Int.cast_ofNat_Int] at k2
      refine ⟨w', k1, ?_⟩
      rw [← k2, ← g2, r04_Canon.L0_eq]
      simp [ht]
      done
    · rw [if_neg hg]
      have g2 := rc_skip (w := w) (bv := bv) (v := v) (t := t) (by omega) ht (by omega) hg m [.code r04_Canon.r11, .code .ret]
      obtain ⟨w', k1, k2⟩ := ih (t + 1) best bv m (by omega) hb hl
      simp only [Int.natCast_add, Int.cast_ofNat_Int] at k2
      refine ⟨w', k1, ?_⟩
      rw [← k2, ← g2, r04_Canon.L0_eq]
      simp [ht]
      done
theorem canonL_eq {v : Nat} (hv : 2 ≤ v) (l : List Int) : canonL v l = cT v l (uniF v (v - 1) 1) l := by
  obtain ⟨n, rfl⟩ : ∃ n, v = n + 1 := ⟨v - 1, by omega⟩
  show cT (n + 1) l (uniF (n + 1) (n + 1) 0) l = _
  rw [cT_succ, if_neg (fun x => by rw [Nat.gcd_zero_left] at x; omega)]
  rfl
theorem rcanon_spec {w : AV} {v : Nat} {l : List Int} (hv : IsInts w l) (s : RingOk v l) : ∃ w', IsInts w' (canonL v l) ∧ ∀ m, denC prog ann 37 [.int .i64 v, w] m = some (w', m) := by
  have hcl : closedL [.int .i64 v, w] = true := by simp [hv.closed]
  have hv2 := s.v2
  obtain ⟨w', h1, h2⟩ := rc_out hv s (v - 1) 1 l w Mem.empty (by omega) hv rfl
  rw [← canonL_eq (by omega)] at h1
  simp only [Int.cast_ofNat_Int] at h2
  refine ⟨w', h1, fun m => ?_⟩
  rw [r04_Canon.call_eq _ _ _ hcl]
  simp [h2]
  done
end Go.Proofs.Ytpghadmpegncgaa

/-
  STRAPS (13): the code that counts the differences. Conditions: none.
-/
namespace Go.Proofs.Ytpghadmpegncgaa
open Go.AM
open Go.Proofs.Try (prog)
set_option linter.all false
set_option maxRecDepth 100000
set_option maxHeartbeats 4000000

theorem rem_nat {v : Int} {l : List Int} (s : RingOk v l) {i j : Nat} (hi : i < l.length) (hj : j < l.length) : ∃ d : Nat, (nth l i - nth l j + v).tmod v = d ∧ (d : Int) < v := by
  have a := s.rng i hi
  have b := s.rng j hj
  have h := s.v2
  have e := Int.tmod_eq_emod_of_nonneg (a := nth l i - nth l j + v) (b := v) (by omega)
  have h1 := Int.emod_nonneg (nth l i - nth l j + v) (show v ≠ 0 by omega)
  have h2 := Int.emod_lt_of_pos (nth l i - nth l j + v) (show 0 < v by omega)
  exact ⟨((nth l i - nth l j + v) % v).toNat, by rw [e]; omega, by omega⟩
theorem df_in {w : AV} {v : Int} {l : List Int} (hv : IsInts w l) (s : RingOk v l) {i : Nat} (hi : i < l.length) (oid : Nat) (K : List Item) : ∀ (k j : Nat) (c : List Int) (m : Mem), j + k = l.length → m.h oid = some (.cells (ints c)) → c.length = v.toNat → Small c (1000000 + j) →
    ∃ m', m'.h oid = some (.cells (ints (dfF l v i k j c))) ∧ strap_differences.L2 (.int .i64 v) w (.sl oid 1 0 c.length c.length) (.int .i64 (nth l i)) w (.int .i64 l.length) (.int .i64 i) w (.int .i64 l.length) (.int .i64 j) m (.inBlock 1 :: .code strap_differences.r11 :: .inLoop strap_differences.l0 :: .inBlock 0 :: K) = strap_differences.L0 (.int .i64 v) w (.sl oid 1 0 c.length c.length) w (.int .i64 l.length) (.int .i64 ((i : Int) + 1)) m' K := by
  intro k
  have hfew := s.few
  have hv2 := s.v2
  have hv31 := s.v31
  have hwi : IntKind.wrap .i64 ((i : Int) + 1) = (i : Int) + 1 := wrap_id (by omega) (by omega)
  induction k with
  | zero =>
    intro j c m h1 hm hc hs
    have e : j = l.length := by omega
    subst e
    refine ⟨m, hm, ?_⟩
    rw [strap_differences.L2_eq]
    simp [hwi]
    done
  | succ k ih =>
    intro j c m h1 hm hc hs
    have hj : j < l.length := by omega
    have hw : IntKind.wrap .i64 ((j : Int) + 1) = (j : Int) + 1 := wrap_id (by omega) (by omega)
    by_cases e : i = j
    · subst e
      have hst := ih (i + 1) c m (by omega) hm hc (fun g => by have := hs g; omega)
      simp only [Int.natCast_add, Int.cast_ofNat_Int] at hst
      obtain ⟨m', g1, g2⟩ := hst
      refine ⟨m', by rw [dfF_succ, if_pos rfl]; exact g1, ?_⟩
      rw [strap_differences.L2_eq]
      simp [hj, hv.idx hj, ints_head hj, hwi, g2]
      done
    · have a1 := s.rng i hi
      have a2 := s.rng j hj
      have hne : ¬ nth l i = nth l j := fun h => e ((s.ne hi hj).1 h)
      obtain ⟨d, hd, hdv⟩ := rem_nat s hi hj
      have hw1 : IntKind.wrap .i64 (nth l i - nth l j) = nth l i - nth l j := wrap_id (by omega) (by omega)
      have hw2 : IntKind.wrap .i64 (nth l i - nth l j + v) = nth l i - nth l j + v := wrap_id (by omega) (by omega)
      have hv0 : ¬ v = 0 := by omega
      have hdl : d < c.length := by omega
      have hs2 := hs d
      have hwc : IntKind.wrap .i64 (nth c d + 1) = nth c d + 1 := wrap_id (by omega) (by omega)
      have hst := fun m hm => ih (j + 1) (bump c d) m (by omega) hm (by rw [bump_len, hc]) (by have := hs.bump (by omega) d; rwa [show (1000000 + (j : Int) + 1) = 1000000 + ((j + 1 : Nat) : Int) by omega] at this)
      rw [bump_len] at hst
      simp only [Int.natCast_add, Int.cast_ofNat_Int] at hst
      have hc' : c.set d (nth c d + 1) = bump c d := rfl
      obtain ⟨m', g1, g2⟩ := hst ⟨upd m.h oid (some (.cells (ints (bump c d)))), m.nx⟩ (by simp)
      refine ⟨m', by rw [dfF_succ, if_neg e, hd]; exact g1, ?_⟩
      rw [strap_differences.L2_eq]
      simp [hj, hv.idx hj, ints_head hj, hne, hw1, hw2, hv0, hd, hdl, hm, hwc, hw, hc', g2]
      done
theorem df_out {w : AV} {v : Int} {l : List Int} (hv : IsInts w l) (s : RingOk v l) (oid : Nat) : ∀ (k i : Nat) (c : List Int) (m : Mem), i + k = l.length → m.h oid = some (.cells (ints c)) → c.length = v.toNat → Small c (1000 * i) →
    strap_differences.L0 (.int .i64 v) w (.sl oid 1 0 c.length c.length) w (.int .i64 l.length) (.int .i64 i) m [.code strap_differences.r12, .code .ret] = some (intsV (dfO l v k i c), Mem.empty) := by
  intro k
  have hfew := s.few
  have hv2 := s.v2
  induction k with
  | zero =>
    intro i c m h1 hm hc hs
    have e : i = l.length := by omega
    subst e
    have hne : c ≠ [] := by intro e; rw [e] at hc; simp at hc; omega
    rw [strap_differences.L0_eq]
    simp [intsV, hne, dfO, hm]
    done
  | succ k ih =>
    intro i c m h1 hm hc hs
    have hi : i < l.length := by omega
    have hw : IntKind.wrap .i64 ((i : Int) + 1) = (i : Int) + 1 := wrap_id (by omega) (by omega)
    obtain ⟨m', g1, g2⟩ := df_in hv s hi oid [.code strap_differences.r12, .code .ret] l.length 0 c m (by omega) hm hc (fun g => by have := hs g; omega)
    simp only [Int.ofNat_zero, Int.cast_ofNat_Int] at g2
    have hst := ih (i + 1) (dfF l v i l.length 0 c) m' (by omega) g1 (by rw [dfF_len, hc]) (by
      have := hs.dfF (l := l) (v := v) (i := i) (k := l.length) (j := 0) (by omega)
      intro g; have := this g; omega)
    simp only [Int.natCast_add, Int.cast_ofNat_Int, dfF_len] at hst
    rw [strap_differences.L0_eq]
    simp [hi, hv.idx hi, ints_head hi, hv.len, g2, hst, dfO_succ]
    done
theorem diffs_spec {w : AV} {v : Int} {l : List Int} (hv : IsInts w l) (s : RingOk v l) (m : Mem) : denC prog ann 56 [.int .i64 v, w] m = some (intsV (diffs v l), m) := by
  have hcl : closedL [.int .i64 v, w] = true := by simp [hv.closed]
  have hv2 := s.v2
  have hv31 := s.v31
  obtain ⟨t, ht⟩ : ∃ t : Nat, v = t := ⟨v.toNat, by omega⟩
  have e : v.toNat = t := by omega
  rw [diffs, e]
  have lp := df_out hv s 0 l.length 0 (List.replicate t 0) ⟨upd Mem.empty.h 0 (some (.cells (List.replicate t (AV.int .i64 0)))), 1⟩ (by omega) (by simp [ints]) (by simp [e]) (fun g => by rw [nth_zero']; omega)
  simp only [Int.ofNat_zero, Int.cast_ofNat_Int, List.length_replicate] at lp
  rw [strap_differences.call_eq _ _ _ hcl]
  subst ht
  simp [hv.len, show t ≤ 4611686018427387904 by omega, show t * 8 ≤ 70368744177664 by omega, lp]
  done

/-! ### The specification's -/
theorem rd_in {w : AV} {v : Int} {l : List Int} (hv : IsInts w l) (s : RingOk v l) {i : Nat} (hi : i < l.length) (oid : Nat) (K : List Item) : ∀ (k j : Nat) (c : List Int) (m : Mem), j + k = l.length → m.h oid = some (.cells (ints c)) → c.length = v.toNat → Small c (1000000 + j) →
    ∃ m', m'.h oid = some (.cells (ints (dfF l v i k j c))) ∧ r04_Even.L2 (.int .i64 v) w (.sl oid 1 0 c.length c.length) (.int .i64 i) (.int .i64 j) m (.inBlock 1 :: .code r04_Even.r4 :: .inLoop r04_Even.l0 :: .inBlock 0 :: K) = r04_Even.L0 (.int .i64 v) w (.sl oid 1 0 c.length c.length) (.int .i64 ((i : Int) + 1)) m' K := by
  intro k
  have hfew := s.few
  have hv2 := s.v2
  have hv31 := s.v31
  have hwi : IntKind.wrap .i64 ((i : Int) + 1) = (i : Int) + 1 := wrap_id (by omega) (by omega)
  induction k with
  | zero =>
    intro j c m h1 hm hc hs
    have e : j = l.length := by omega
    subst e
    refine ⟨m, hm, ?_⟩
    rw [r04_Even.L2_eq]
    simp [hv.len, hwi]
    done
  | succ k ih =>
    intro j c m h1 hm hc hs
    have hj : j < l.length := by omega
    have hw : IntKind.wrap .i64 ((j : Int) + 1) = (j : Int) + 1 := wrap_id (by omega) (by omega)
    by_cases e : i = j
    · subst e
      have hst := ih (i + 1) c m (by omega) hm hc (fun g => by have := hs g; omega)
      simp only [Int.natCast_add, Int.cast_ofNat_Int] at hst
      obtain ⟨m', g1, g2⟩ := hst
      refine ⟨m', by rw [dfF_succ, if_pos rfl]; exact g1, ?_⟩
      rw [r04_Even.L2_eq]
      simp [hj, hv.len, hwi, g2]
      done
    · have a1 := s.rng i hi
      have a2 := s.rng j hj
      have hne : ¬ (i : Int) = (j : Int) := by omega
      obtain ⟨d, hd, hdv⟩ := rem_nat s hi hj
      have hw1 : IntKind.wrap .i64 (nth l i - nth l j) = nth l i - nth l j := wrap_id (by omega) (by omega)
      have hw2 : IntKind.wrap .i64 (nth l i - nth l j + v) = nth l i - nth l j + v := wrap_id (by omega) (by omega)
      have hv0 : ¬ v = 0 := by omega
      have hdl : d < c.length := by omega
      have hs2 := hs d
      have hwc : IntKind.wrap .i64 (nth c d + 1) = nth c d + 1 := wrap_id (by omega) (by omega)
      have hst := fun m hm => ih (j + 1) (bump c d) m (by omega) hm (by rw [bump_len, hc]) (by have := hs.bump (by omega) d; rwa [show (1000000 + (j : Int) + 1) = 1000000 + ((j + 1 : Nat) : Int) by omega] at this)
      rw [bump_len] at hst
      simp only [Int.natCast_add, Int.cast_ofNat_Int] at hst
      have hc' : c.set d (nth c d + 1) = bump c d := rfl
      obtain ⟨m', g1, g2⟩ := hst ⟨upd m.h oid (some (.cells (ints (bump c d)))), m.nx + 19⟩ (by simp)
      refine ⟨m', by rw [dfF_succ, if_neg e, hd]; exact g1, ?_⟩
      rw [r04_Even.L2_eq]
      simp [hj, hv.len, hv.idx hi, ints_head hi, hv.idx hj, ints_head hj, hne, e, hw1, hw2, hv0, hd, hdl, hm, hwc, hw, hc', g2]
      done
end Go.Proofs.Ytpghadmpegncgaa

/-
  STRAPS (10): Single, and the specification's. Conditions: none.
-/
namespace Go.Proofs.Ytpghadmpegncgaa
open Go.AM
open Go.Proofs.Try (prog)
set_option linter.all false
set_option maxRecDepth 100000
set_option maxHeartbeats 4000000

def endsAt (L : Int) (l : List Int) : Bool := decide (top l = L)
theorem one_ok : StrapOk [0] := ⟨by decide, by decide, rfl, fun i hi => by simp at hi, by decide⟩
/-- Length after length. -/
def sngS (k : Nat) : Nat → Int → Option (List Int)
  | 0, _ => none
  | n + 1, L => match findF gSingle (endsAt L) L (k - 1) [0] with
    | some r => some r
    | none => sngS k n (L + 1)
/-! ### The specification's -/
def rsF (L : Int) : Nat → List Int → Option (List Int)
  | 0, l => if (tw0 l l.length 0 []).isEmpty = true then (if top l = L then some l else none) else none
  | f + 1, l => if (tw0 l l.length 0 []).isEmpty = true then firstF (rsF L f) l (L - top l).toNat (top l + 1) else none
def rsS (k : Nat) : Nat → Int → Option (List Int)
  | 0, _ => none
  | n + 1, L => match rsF L (k - 1) [0] with
    | some r => some r
    | none => rsS k n (L + 1)
end Go.Proofs.Ytpghadmpegncgaa

/-
  BODIES OF FUNCTIONS OF THE PROGRAM AS SMALL OPERATIONS (written by gen.py; checked by the kernel against the program). Conditions: none.
-/
namespace Go.Proofs.Ytpghadmpegncgaa
open Go.AM
open Go.Proofs.Try (prog)
set_option maxRecDepth 100000
set_option linter.all false






end Go.Proofs.Ytpghadmpegncgaa

/-
  STRAPS (11): Full, and the specification's. Conditions: none.
-/
namespace Go.Proofs.Ytpghadmpegncgaa
open Go.AM
open Go.Proofs.Try (prog)
set_option linter.all false
set_option maxRecDepth 100000
set_option maxHeartbeats 4000000

def always (_ : List Int) : Bool := true
def fullAt (L : Int) (l : List Int) : Bool := decide (top l = L) && !decide ((0 : Int) ∈ (counts l).drop 1)
def flS (L : Int) : Nat → Nat → Option (List Int)
  | 0, _ => none
  | n + 1, size => if ((size : Int) * ((size : Int) - 1)).tdiv 2 < L then flS L n (size + 1) else match findF always (fullAt L) L (size - 1) [0] with
    | some r => some r
    | none => flS L n (size + 1)
/-! ### The specification's -/
def rfF (L : Int) : Nat → List Int → Option (List Int)
  | 0, l => if top l = L then (if (misses l).length = 0 then some l else none) else none
  | f + 1, l => firstF (rfF L f) l (L - top l).toNat (top l + 1)
def rfS (L : Int) : Nat → Nat → Option (List Int)
  | 0, _ => none
  | n + 1, k => match rfF L (k - 1) [0] with
    | some r => some r
    | none => rfS L n (k + 1)
end Go.Proofs.Ytpghadmpegncgaa

/-
  STRAPS (14): Even, and the specification's. Conditions: none.
-/
namespace Go.Proofs.Ytpghadmpegncgaa
open Go.AM
open Go.Proofs.Try (prog)
set_option linter.all false
set_option maxRecDepth 100000
set_option maxHeartbeats 4000000

def eqA (c : List Int) (k d : Nat) : Bool := (List.range' d k).all fun g => decide (nth c g = nth c 1)
theorem re_loop {v : Nat} {c : List Int} (hc : c.length = v) (hv : 2 ≤ v ∧ v ≤ 31) (oid : Nat) : ∀ (k d : Nat) (m : Mem), d + k = v → m.h oid = some (.cells (ints c)) →
    r04_Even.L4 (.int .i64 v) (.sl oid 1 0 c.length c.length) (.int .i64 d) m [.code r04_Even.r15, .code .ret] = some (if eqA c k d = true then .tup [.int .i64 (nth c 1), .bool true] else .tup [.int .i64 0, .bool false], Mem.empty) := by
  intro k
  have h1l : 1 < c.length := by omega
  have h1i : (1 : Int) < c.length := by omega
  induction k with
  | zero =>
    intro d m h1 hm
    have e : d = v := by omega
    subst e
    rw [r04_Even.L4_eq]
    have hz : eqA c 0 d = true := rfl
    rw [hz, if_pos rfl]
    simp [h1l, h1i, hm]
    done
  | succ k ih =>
    intro d m h1 hm
    have hd : d < v := by omega
    have hdc : d < c.length := by omega
    have hw : IntKind.wrap .i64 ((d : Int) + 1) = (d : Int) + 1 := wrap_id (by omega) (by omega)
    have hst := ih (d + 1) ⟨m.h, m.nx + 8⟩ (by omega) hm
    simp only [Int.natCast_add, Int.cast_ofNat_Int] at hst
    have e : eqA c (k + 1) d = (decide (nth c d = nth c 1) && eqA c k (d + 1)) := by simp [eqA, List.range'_succ]
    rw [e, r04_Even.L4_eq]
    by_cases q : nth c d = nth c 1
    · rw [decide_eq_true q, Bool.true_and]
      simp [hd, hdc, h1l, h1i, hm, q, hw, hst]
      done
    · rw [decide_eq_false q, Bool.false_and]
      simp [hd, hdc, h1l, h1i, hm, q]
      done
/-- What the specification's Even hands back. -/
def evenV (c : List Int) (n : Nat) : AV := if eqA c n 1 = true then .tup [.int .i64 (nth c 1), .bool true] else .tup [.int .i64 0, .bool false]
theorem re_out {w : AV} {v : Nat} {l : List Int} (hv : IsInts w l) (s : RingOk v l) (oid : Nat) : ∀ (k i : Nat) (c : List Int) (m : Mem), i + k = l.length → m.h oid = some (.cells (ints c)) → c.length = v → Small c (1000 * i) →
    r04_Even.L0 (.int .i64 v) w (.sl oid 1 0 c.length c.length) (.int .i64 i) m [.code r04_Even.r10, .code r04_Even.k4, .code r04_Even.r15, .code .ret] = some (evenV (dfO l v k i c) (v - 1), Mem.empty) := by
  intro k
  have hfew := s.few
  have hv2 := s.v2
  have hv31 := s.v31
  induction k with
  | zero =>
    intro i c m h1 hm hc hs
    have e : i = l.length := by omega
    subst e
    have lp := re_loop hc (by omega) oid (v - 1) 1 m (by omega) hm
    simp only [Int.cast_ofNat_Int] at lp
    rw [r04_Even.L0_eq]
    simp [hv.len, lp, dfO, evenV]
    done
  | succ k ih =>
    intro i c m h1 hm hc hs
    have hi : i < l.length := by omega
    have hw : IntKind.wrap .i64 ((i : Int) + 1) = (i : Int) + 1 := wrap_id (by omega) (by omega)
    obtain ⟨m', g1, g2⟩ := rd_in hv s hi oid [.code r04_Even.r10, .code r04_Even.k4, .code r04_Even.r15, .code .ret] l.length 0 c m (by omega) hm (by omega) (fun g => by have := hs g; omega)
    simp only [Int.ofNat_zero, Int.cast_ofNat_Int] at g2
    have hst := ih (i + 1) (dfF l v i l.length 0 c) m' (by omega) g1 (by rw [dfF_len, hc]) (by
      have := hs.dfF (l := l) (v := v) (i := i) (k := l.length) (j := 0) (by omega)
      intro g; have := this g; omega)
    simp only [Int.natCast_add, Int.cast_ofNat_Int, dfF_len] at hst
    rw [r04_Even.L0_eq]
    simp [hi, hv.len, g2, hst, dfO_succ]
    done
theorem reven_spec {w : AV} {v : Nat} {l : List Int} (hv : IsInts w l) (s : RingOk v l) (m : Mem) : denC prog ann 33 [.int .i64 v, w] m = some (evenV (diffs v l) (v - 1), m) := by
  have hcl : closedL [.int .i64 v, w] = true := by simp [hv.closed]
  have hv2 := s.v2
  have hv31 := s.v31
  rw [diffs, Int.toNat_natCast]
  have lp := re_out hv s 0 l.length 0 (List.replicate v 0) ⟨upd Mem.empty.h 0 (some (.cells (List.replicate v (AV.int .i64 0)))), 1⟩ (by omega) (by simp [ints]) (by simp) (fun g => by rw [nth_zero']; omega)
  simp only [Int.ofNat_zero, Int.cast_ofNat_Int, List.length_replicate] at lp
  rw [r04_Even.call_eq _ _ _ hcl]
  simp [show v ≤ 4611686018427387904 by omega, show v * 8 ≤ 70368744177664 by omega, lp]
  done

/-! ### The code's -/
def minL (c : List Int) : Int := (c.drop 1).foldl min (nth c 0)
theorem foldl_max_ge : ∀ (L : List Int) (x : Int), x ≤ L.foldl max x ∧ ∀ y ∈ L, y ≤ L.foldl max x
  | [], x => ⟨Int.le_refl _, fun _ h => by cases h⟩
  | a :: L, x => by
    obtain ⟨h1, h2⟩ := foldl_max_ge L (max x a)
    refine ⟨by rw [List.foldl_cons]; omega, fun y hy => ?_⟩
    rw [List.foldl_cons]
    rcases List.mem_cons.1 hy with rfl | hy
    · omega
    · exact h2 y hy
theorem nth_drop (c : List Int) (i j : Nat) : nth (c.drop i) j = nth c (i + j) := by simp [nth, List.getD, List.getElem?_drop]
theorem eqA_iff {c : List Int} {v : Nat} (hc : c.length = v) (hv : 2 ≤ v) : eqA c (v - 1) 1 = true ↔ ∀ y ∈ c.drop 1, y = nth c 1 := by
  rw [eqA, List.all_eq_true]
  constructor
  · intro a y hy
    obtain ⟨i, hi, e⟩ := List.getElem_of_mem hy
    rw [nth_get hi, nth_drop] at e
    simp at hi
    have := a (1 + i) (by simp [List.mem_range'_1]; omega)
    rw [decide_eq_true_eq] at this
    omega
  · intro a g hg
    simp [List.mem_range'_1] at hg
    rw [decide_eq_true_eq]
    refine a _ ?_
    have : g - 1 < (c.drop 1).length := by simp; omega
    have e := nth_drop c 1 (g - 1)
    rw [show 1 + (g - 1) = g by omega] at e
    rw [← e, ← nth_get this]
    exact List.getElem_mem _
theorem diffs_len (v : Int) (l : List Int) : (diffs v l).length = v.toNat := by rw [diffs, dfO_len, List.length_replicate]
end Go.Proofs.Ytpghadmpegncgaa

/-
  STRAPS (15): the differences in plain terms: their sum, and that they grow with the list. Conditions: none.
-/
namespace Go.Proofs.Ytpghadmpegncgaa
open Go.AM
set_option linter.all false
set_option maxRecDepth 10000
set_option maxHeartbeats 2000000

def sumL : List Int → Int
  | [] => 0
  | a :: l => a + sumL l
theorem sumL_set : ∀ (c : List Int) (h : Nat) (v : Int), h < c.length → sumL (c.set h v) = sumL c - nth c h + v
  | [], h, _, hh => by simp at hh
  | a :: c, 0, v, _ => by simp [sumL, nth]; omega
  | a :: c, h + 1, v, hh => by
    have := sumL_set c h v (by simpa using hh)
    simp only [List.set_cons_succ, sumL, this]
    have e : nth (a :: c) (h + 1) = nth c h := by simp [nth]
    rw [e]; omega
theorem sumL_bump {c : List Int} {h : Nat} (hh : h < c.length) : sumL (bump c h) = sumL c + 1 := by
  rw [bump, sumL_set c h _ hh]; omega
theorem sumL_rep : ∀ n : Nat, sumL (List.replicate n 0) = 0
  | 0 => rfl
  | n + 1 => by rw [List.replicate_succ, sumL, sumL_rep n]; rfl
theorem dfF_sum {v : Int} {l : List Int} (s : RingOk v l) {i : Nat} (hi : i < l.length) : ∀ {k j : Nat} {c : List Int}, j + k ≤ l.length → c.length = v.toNat → sumL (dfF l v i k j c) = sumL c + ((List.range' j k).countP fun q => !decide (i = q) : Nat)
  | 0, j, c, _, _ => by simp [dfF]
  | k + 1, j, c, h, hc => by
    rw [dfF_succ, dfF_sum s hi (by omega) (by split <;> simp [bump_len, hc]), List.range'_succ, List.countP_cons]
    by_cases e : i = j
    · simp [e]
    · obtain ⟨d, hd, hdv⟩ := rem_nat s hi (show j < l.length by omega)
      rw [if_neg e, hd, Int.toNat_natCast, sumL_bump (by omega)]
      simp [e] <;> omega
theorem count_ne (i : Nat) : ∀ (k j : Nat), ((List.range' j k).countP fun q => !decide (i = q)) + (if j ≤ i ∧ i < j + k then 1 else 0) = k
  | 0, j => by rw [if_neg (by omega)]; rfl
  | k + 1, j => by
    have := count_ne i k (j + 1)
    rw [List.range'_succ, List.countP_cons]
    by_cases e : i = j
    · subst e
      rw [if_neg (by omega)] at this
      rw [if_neg (by simp), if_pos (by omega)]
      omega
    · simp only [decide_eq_false e, Bool.not_false, if_true]
      by_cases q : j + 1 ≤ i ∧ i < j + 1 + k
      · rw [if_pos q] at this
        rw [if_pos (by omega)]; omega
      · rw [if_neg q] at this
        rw [if_neg (by omega)]; omega
theorem dfO_sum {v : Int} {l : List Int} (s : RingOk v l) : ∀ {k i : Nat} {c : List Int}, i + k ≤ l.length → c.length = v.toNat → sumL (dfO l v k i c) = sumL c + (k * (l.length - 1) : Nat)
  | 0, i, c, _, _ => by simp [dfO]
  | k + 1, i, c, h, hc => by
    have a := count_ne i l.length 0
    rw [if_pos (by omega)] at a
    rw [dfO_succ, dfO_sum s (by omega) (by rw [dfF_len, hc]), dfF_sum s (show i < l.length by omega) (by omega) hc, Nat.succ_mul]
    omega
theorem diffs_sum {v : Int} {l : List Int} (s : RingOk v l) : sumL (diffs v l) = (l.length * (l.length - 1) : Nat) := by
  rw [diffs, dfO_sum s (by omega) (by simp), sumL_rep]; omega
/-- How often a difference comes. -/
def dHit (l : List Int) (v : Int) (g i q : Nat) : Bool := !decide (i = q) && decide ((nth l i - nth l q + v).tmod v = g)
theorem dfF_nth {v : Int} {l : List Int} (s : RingOk v l) {i : Nat} (hi : i < l.length) (g : Nat) : ∀ {k j : Nat} {c : List Int}, j + k ≤ l.length → c.length = v.toNat → nth (dfF l v i k j c) g = nth c g + ((List.range' j k).countP (dHit l v g i) : Nat)
  | 0, j, c, _, _ => by simp [dfF]
  | k + 1, j, c, h, hc => by
    rw [dfF_succ, dfF_nth s hi g (by omega) (by split <;> simp [bump_len, hc]), List.range'_succ, List.countP_cons]
    by_cases e : i = j
    · simp [e, dHit]
    · obtain ⟨d, hd, hdv⟩ := rem_nat s hi (show j < l.length by omega)
      rw [if_neg e, hd, Int.toNat_natCast, nth_bump (by omega)]
      simp only [dHit, decide_eq_false e, Bool.not_false, Bool.true_and, hd]
      by_cases q : g = d
      · subst q; simp; omega
      · have q' : ¬ (d : Int) = (g : Int) := by omega
        simp [q, q']
def dCnt (l : List Int) (v : Int) (g n : Nat) : Nat → Nat → Nat
  | 0, _ => 0
  | k + 1, i => (List.range' 0 n).countP (dHit l v g i) + dCnt l v g n k (i + 1)
theorem dfO_nth {v : Int} {l : List Int} (s : RingOk v l) (g : Nat) : ∀ {k i : Nat} {c : List Int}, i + k ≤ l.length → c.length = v.toNat → nth (dfO l v k i c) g = nth c g + (dCnt l v g l.length k i : Nat)
  | 0, i, c, _, _ => by simp [dfO, dCnt]
  | k + 1, i, c, h, hc => by
    rw [dfO_succ, dfO_nth s g (by omega) (by rw [dfF_len, hc]), dfF_nth s (show i < l.length by omega) g (by omega) hc, dCnt]
    omega
theorem diffs_nth {v : Int} {l : List Int} (s : RingOk v l) (g : Nat) : nth (diffs v l) g = dCnt l v g l.length l.length 0 := by
  rw [diffs, dfO_nth s g (by omega) (by simp), nth_zero']; omega
theorem dHit_app {l : List Int} {v : Int} {g i q : Nat} {x : Int} (hi : i < l.length) (hq : q < l.length) : dHit (l ++ [x]) v g i q = dHit l v g i q := by
  simp only [dHit, nth_append, if_pos hi, if_pos hq]
theorem dCnt_app {l : List Int} {v : Int} {g : Nat} {x : Int} : ∀ {k i : Nat}, i + k ≤ l.length → dCnt l v g l.length k i ≤ dCnt (l ++ [x]) v g (l.length + 1) (k + 1) i
  | 0, i, _ => Nat.zero_le _
  | k + 1, i, h => by
    have ih := dCnt_app (l := l) (v := v) (g := g) (x := x) (k := k) (i := i + 1) (by omega)
    rw [dCnt, dCnt]
    have e : (List.range' 0 (l.length + 1)) = List.range' 0 l.length ++ [l.length] := by simpa using List.range'_concat (s := 0) (n := l.length) (step := 1)
    have e2 : (List.range' 0 l.length).countP (dHit (l ++ [x]) v g i) = (List.range' 0 l.length).countP (dHit l v g i) := by
      refine List.countP_congr fun q hq => ?_
      simp [List.mem_range'_1] at hq
      rw [dHit_app (by omega) hq]
    rw [e, List.countP_append, e2]
    omega
theorem diffs_mono {v : Int} {l : List Int} {x : Int} (s : RingOk v l) (s2 : RingOk v (l ++ [x])) (g : Nat) : nth (diffs v l) g ≤ nth (diffs v (l ++ [x])) g := by
  rw [diffs_nth s, diffs_nth s2, List.length_append, List.length_singleton]
  have := dCnt_app (l := l) (v := v) (g := g) (x := x) (k := l.length) (i := 0) (by omega)
  omega
theorem diffs_zero {v : Int} {l : List Int} (s : RingOk v l) : nth (diffs v l) 0 = 0 := by
  rw [diffs_nth s]
  have : ∀ k i, i + k ≤ l.length → dCnt l v 0 l.length k i = 0 := by
    intro k
    induction k with
    | zero => intro i _; rfl
    | succ k ih =>
      intro i h
      have z : (List.range' 0 l.length).countP (dHit l v 0 i) = 0 := by
        rw [List.countP_eq_zero]
        intro q hq
        simp [List.mem_range'_1] at hq
        simp only [dHit, Bool.and_eq_true, Bool.not_eq_true', decide_eq_false_iff_not, decide_eq_true_eq, not_and]
        intro hne h0
        have a := s.rng i (by omega)
        have b := s.rng q hq
        have hn : ¬ nth l i = nth l q := fun h => hne ((s.ne (by omega) hq).1 h)
        rw [Int.tmod_eq_emod_of_nonneg (by omega)] at h0
        have h2 := s.v2
        have := Int.emod_add_mul_ediv (nth l i - nth l q + v) v
        by_cases h3 : nth l i - nth l q + v < v
        · rw [Int.emod_eq_of_lt (by omega) h3] at h0; omega
        · have e : nth l i - nth l q + v = (nth l i - nth l q) + v * 1 := by omega
          rw [e, Int.add_mul_emod_self_left, Int.emod_eq_of_lt (by omega) (by omega)] at h0
          omega
      rw [dCnt, z, ih (i + 1) (by omega)]
  rw [this _ _ (by omega)]; rfl
/-! ### The greatest -/
theorem maxL_le {c : List Int} {b : Int} (h : 0 < c.length) : maxL c ≤ b ↔ ∀ g, g < c.length → nth c g ≤ b := by
  have h0 : c = nth c 0 :: c.drop 1 := by
    have := drop_nth (l := c) (i := 0) h
    simpa using this
  obtain ⟨a1, a2⟩ := foldl_max_ge (c.drop 1) (nth c 0)
  constructor
  · intro hb g hg
    unfold maxL at hb
    have : nth c g ∈ c := nth_mem hg
    rw [h0] at this
    rcases List.mem_cons.1 this with e | e
    · rw [← h0] at e; omega
    · rw [← h0] at e
      have := a2 _ e; omega
  · intro hb
    have : ∀ (L : List Int) (x : Int), x ≤ b → (∀ y ∈ L, y ≤ b) → L.foldl max x ≤ b := by
      intro L
      induction L with
      | nil => intro x hx _; exact hx
      | cons a L ih =>
        intro x hx hy
        rw [List.foldl_cons]
        exact ih _ (by have := hy a (by simp); omega) fun y h => hy y (by simp [h])
    refine this _ _ (hb 0 h) fun y hy => ?_
    obtain ⟨i, hi, e⟩ := List.getElem_of_mem hy
    rw [nth_get hi, nth_drop] at e
    simp at hi
    rw [← e]; exact hb _ (by omega)
theorem sumL_le : ∀ {c : List Int} {b : Int}, (∀ y ∈ c, y ≤ b) → sumL c ≤ b * c.length ∧ (sumL c = b * c.length → ∀ y ∈ c, y = b)
  | [], b, _ => ⟨by simp [sumL], fun _ y h => by cases h⟩
  | a :: c, b, h => by
    obtain ⟨h1, h2⟩ := sumL_le (c := c) (b := b) fun y hy => h y (by simp [hy])
    have ha := h a (by simp)
    have e : b * ((a :: c).length : Nat) = b * c.length + b := by simp [Int.mul_add]
    rw [sumL, e]
    refine ⟨by omega, fun hs y hy => ?_⟩
    rcases List.mem_cons.1 hy with rfl | hy
    · omega
    · exact h2 (by omega) y hy
theorem sumL_same : ∀ {c : List Int} {b : Int}, (∀ y ∈ c, y = b) → sumL c = b * c.length
  | [], b, _ => by simp [sumL]
  | a :: c, b, h => by
    have := sumL_same (c := c) (b := b) fun y hy => h y (by simp [hy])
    have e : b * ((a :: c).length : Nat) = b * c.length + b := by simp [Int.mul_add]
    rw [sumL, e, this, h a (by simp)]; omega
theorem sumL_drop {c : List Int} (h : 0 < c.length) : sumL c = nth c 0 + sumL (c.drop 1) := by
  have := drop_nth (l := c) (i := 0) h
  rw [List.drop_zero] at this
  conv => lhs; rw [this]
  rfl
def gRound (v often : Int) (l : List Int) : Bool := decide (maxL (diffs v l) ≤ often)
def pRound (v : Nat) (often : Int) (l : List Int) : Bool := eqA (diffs v l) (v - 1) 1 && decide (nth (diffs v l) 1 = often)
/-- A round strap is even, by a number, when no difference comes more often, and the counts fit. -/
theorem round_iff {v : Nat} {often : Int} {l : List Int} (s : RingOk v l) (ho : 0 ≤ often) : pRound v often l = true ↔ gRound v often l = true ∧ ((l.length * (l.length - 1) : Nat) : Int) = often * ((v : Int) - 1) := by
  have hlen := diffs_len v l
  rw [Int.toNat_natCast] at hlen
  have hv2 := s.v2
  have hsum := diffs_sum s
  have hz := diffs_zero s
  have hd : ((diffs v l).drop 1).length = v - 1 := by simp; omega
  rw [sumL_drop (by omega), hz] at hsum
  rw [pRound, Bool.and_eq_true, decide_eq_true_eq, eqA_iff hlen (by omega), gRound, decide_eq_true_eq, maxL_le (by omega)]
  generalize diffs (↑v) l = c at *
  have e1 : ((v - 1 : Nat) : Int) = (v : Int) - 1 := by omega
  constructor
  · rintro ⟨h1, h2⟩
    have h3 : ∀ y ∈ c.drop 1, y = often := fun y hy => by rw [h1 y hy, h2]
    have h4 := sumL_same h3
    rw [hd, e1] at h4
    refine ⟨fun g hg => ?_, by omega⟩
    rcases Nat.eq_zero_or_pos g with rfl | hg0
    · omega
    · have e := nth_drop c 1 (g - 1)
      rw [show 1 + (g - 1) = g by omega] at e
      have := h3 _ (nth_mem (l := c.drop 1) (i := g - 1) (by omega))
      omega
  · rintro ⟨h1, h2⟩
    have h3 : ∀ y ∈ c.drop 1, y ≤ often := fun y hy => by
      obtain ⟨i, hi, e⟩ := List.getElem_of_mem hy
      rw [nth_get hi, nth_drop] at e
      rw [← e]; exact h1 _ (by omega)
    obtain ⟨_, h5⟩ := sumL_le h3
    rw [hd, e1] at h5
    have h6 := h5 (by omega)
    have e := nth_drop c 1 0
    have h7 := h6 _ (nth_mem (l := c.drop 1) (i := 0) (by omega))
    rw [e] at h7
    exact ⟨fun y hy => by rw [h6 y hy]; exact h7.symm, h7⟩
end Go.Proofs.Ytpghadmpegncgaa

/-
  STRAPS (16): the two searches for a round strap find the same. Conditions: none.
-/
namespace Go.Proofs.Ytpghadmpegncgaa
open Go.AM
set_option linter.all false
set_option maxRecDepth 10000
set_option maxHeartbeats 2000000

theorem StrapOk.ge {l : List Int} (s : StrapOk l) : ∀ {i : Nat}, i < l.length → (i : Int) ≤ nth l i
  | 0, _ => by rw [s.zero]; omega
  | i + 1, h => by
    have := s.ge (i := i) (by omega)
    have := s.asc i h
    omega
theorem StrapOk.ring {l : List Int} (s : StrapOk l) {v : Nat} (hv : 2 ≤ v ∧ v ≤ 31) (ht : Go.Proofs.Ytpghadmpegncgaa.top l ≤ (v : Int) - 1) : RingOk v l := by
  have hpos := s.pos
  have hge := s.ge (i := l.length - 1) (by omega)
  unfold Go.Proofs.Ytpghadmpegncgaa.top at ht
  refine ⟨by omega, by omega, hpos, by omega, fun i hi => ⟨s.nonneg hi, ?_⟩, fun i hi => s.asc i hi⟩
  have := s.le (show i ≤ l.length - 1 by omega) (by omega)
  omega
def rrF (v : Nat) (often : Int) : Nat → List Int → Option (List Int)
  | 0, l => if pRound v often l = true then some l else none
  | f + 1, l => firstF (rrF v often f) l ((v : Int) - 1 - top l).toNat (top l + 1)
theorem firstF_none {r : List Int → Option (List Int)} {l : List Int} : ∀ (n : Nat) (x : Int), (∀ y, x ≤ y → y < x + n → r (l ++ [y]) = none) → firstF r l n x = none
  | 0, _, _ => rfl
  | n + 1, x, h => by
    rw [firstF, h x (by omega) (by omega)]
    exact firstF_none n (x + 1) fun y h1 h2 => h y (by omega) (by omega)
theorem rr_room (v : Nat) (often : Int) : ∀ (f : Nat) (l : List Int), top l ≤ (v : Int) - 1 → (v : Int) - 1 - top l < f → rrF v often f l = none
  | 0, l, h, h2 => by omega
  | f + 1, l, h, h2 => by
    rw [rrF]
    refine firstF_none _ _ fun y h3 h4 => rr_room v often f _ (by rw [top_app]; omega) (by rw [top_app]; omega)
theorem rr_not {v : Nat} {often : Int} (hv : 2 ≤ v ∧ v ≤ 31) (ho : 0 ≤ often) : ∀ (f : Nat) (l : List Int), StrapOk l → top l ≤ (v : Int) - 1 → l.length + f ≤ 31 → gRound v often l = false → rrF v often f l = none
  | 0, l, s, ht, _, hg => by
    rw [rrF, if_neg]
    intro h
    rw [round_iff (s.ring hv ht) ho] at h
    rw [h.1] at hg; cases hg
  | f + 1, l, s, ht, hl, hg => by
    rw [rrF]
    refine firstF_none _ _ fun y h3 h4 => ?_
    have s2 : StrapOk (l ++ [y]) := s.more (by omega) (by omega) (by omega)
    have ht2 : top (l ++ [y]) ≤ (v : Int) - 1 := by rw [top_app]; omega
    refine rr_not hv ho f _ s2 ht2 (by simp; omega) ?_
    have r1 := s.ring hv ht
    have r2 := s2.ring hv ht2
    have l1 := diffs_len v l
    have l2 := diffs_len v (l ++ [y])
    rw [Int.toNat_natCast] at l1 l2
    rw [gRound, decide_eq_false_iff_not, maxL_le (by omega)] at hg ⊢
    intro h
    refine hg fun g hg2 => ?_
    have := diffs_mono r1 r2 g
    have := h g (by omega)
    omega
theorem rr_count {v : Nat} {often : Int} (hv : 2 ≤ v ∧ v ≤ 31) (ho : 0 ≤ often) {k : Nat} (hk : k ≤ 31) (hc : ¬ ((k * (k - 1) : Nat) : Int) = often * ((v : Int) - 1)) : ∀ (f : Nat) (l : List Int), StrapOk l → top l ≤ (v : Int) - 1 → l.length + f = k → rrF v often f l = none
  | 0, l, s, ht, hl => by
    rw [rrF, if_neg]
    intro h
    rw [round_iff (s.ring hv ht) ho] at h
    have : l.length = k := by omega
    rw [this] at h
    exact hc h.2
  | f + 1, l, s, ht, hl => by
    rw [rrF]
    refine firstF_none _ _ fun y h3 h4 => ?_
    exact rr_count hv ho hk hc f _ (s.more (by omega) (by omega) (by omega)) (by rw [top_app]; omega) (by simp; omega)
theorem first_same {r r' : List Int → Option (List Int)} {l : List Int} : ∀ (n n' : Nat) (x : Int), n ≤ n' → (∀ y, x ≤ y → y < x + n → r (l ++ [y]) = r' (l ++ [y])) → (∀ y, x + n ≤ y → y < x + n' → r' (l ++ [y]) = none) → firstF r l n x = firstF r' l n' x
  | 0, n', x, _, _, h => (firstF_none n' x fun y h1 h2 => h y (by omega) h2).symm
  | n + 1, 0, x, h, _, _ => by omega
  | n + 1, n' + 1, x, h, h1, h2 => by
    rw [firstF, firstF, h1 x (by omega) (by omega)]
    rw [first_same n n' (x + 1) (by omega) (fun y a b => h1 y (by omega) (by omega)) (fun y a b => h2 y (by omega) (by omega))]
theorem find_rr {v : Nat} {often : Int} (hv : 2 ≤ v ∧ v ≤ 31) (ho : 0 ≤ often) {k : Nat} (hk : k ≤ 31) (hc : ((k * (k - 1) : Nat) : Int) = often * ((v : Int) - 1)) : ∀ (f : Nat) (l : List Int), StrapOk l → top l ≤ (v : Int) - 1 → l.length + f = k → findF (gRound v often) (fun _ => true) ((v : Int) - 1) f l = rrF v often f l
  | 0, l, s, ht, hl => by
    have h := round_iff (s.ring hv ht) ho
    have : l.length = k := by omega
    rw [this] at h
    rw [findF, rrF]
    by_cases q : gRound v often l = true
    · rw [if_pos q, if_pos rfl, if_pos (h.2 ⟨q, hc⟩)]
    · rw [if_neg q, if_neg (fun p => q (h.1 p).1)]
  | f + 1, l, s, ht, hl => by
    rw [findF]
    by_cases q : gRound v often l = true
    · rw [if_pos q, rrF]
      refine first_same _ _ _ (by omega) (fun y a b => ?_) fun y a b => ?_
      · exact find_rr hv ho hk hc f _ (s.more (by omega) (by omega) (by omega)) (by rw [top_app]; omega) (by simp; omega)
      · exact rr_room v often f _ (by rw [top_app]; omega) (by rw [top_app]; omega)
    · rw [if_neg q, rr_not hv ho (f + 1) l s ht (by omega) (by simpa using q)]
end Go.Proofs.Ytpghadmpegncgaa

/-
  STRAPS (17): Round, and the specification's. Conditions: none.
-/
namespace Go.Proofs.Ytpghadmpegncgaa
open Go.AM
open Go.Proofs.Try (prog)
set_option linter.all false
set_option maxRecDepth 100000
set_option maxHeartbeats 4000000

theorem ResV.deep {r : Option (List Int)} {w : AV} (h : ResV r w) (hp : Nat → Option AObj) (d : Nat) : AM.deep hp (d + 1) w = some w := by
  cases r with
  | none => have : w = .nils := h
            rw [this]; rfl
  | some q => obtain ⟨ex, rfl⟩ := h; rfl
/-! ### The code's -/
theorem goes_spec {w : AV} {l : List Int} (hv : IsInts w l) {v : Nat} {often : Int} (s : RingOk v l) (m : Mem) : denC prog ann 65 [w, .fptr [.int .i64 v], .fptr [.int .i64 often]] m = some (.bool (gRound v often l), ⟨m.h, m.nx + 7⟩) := by
  have hw0 := intsV_is (diffs v l)
  have hlen := diffs_len v l
  have h1 := s.v2
  have h2 := s.v31
  rw [Int.toNat_natCast] at hlen
  have hmx := fun m => max_spec hw0 (by omega) (by omega) m
  rw [strap_round_1.call_eq]
  simp [hv.closed, diffs_spec hv s, hw0.closed, hmx, gRound]
  done
theorem clo_round {v : Nat} (h1 : 2 ≤ v ∧ v ≤ 31) (often : Int) : Clo (.fn 65 [] [.fptr [.int .i64 v], .fptr [.int .i64 often]]) (gRound v often) 7 ((v : Int) - 1) :=
  ⟨rfl, rfl, fun {w l} hv s ht m => by simp [hv.closed, goes_spec hv (s.ring h1 ht), show (ann 65).pure = false by kernel_rfl]⟩
theorem clo_true (last : Int) : Clo (.fn 66 [] []) (fun _ => true) 0 last := ⟨rfl, rfl, fun {w l} hv s _ m => by
  have e : ∀ m, denC prog ann 66 [w] m = some (.bool true, m) := fun m => by
    rw [strap_round_2.call_eq _ _ (by simp [hv.closed])]
    simp
    done
  simp [hv.closed, e]⟩
theorem round_spec {v k : Nat} {often : Int} (hk : 2 ≤ k ∧ k ≤ 6) (h1 : 2 ≤ v ∧ v ≤ 31) (ho : 1 ≤ often ∧ often ≤ 31) : ∃ w', ResV (rrF v often (k - 1) [0]) w' ∧ ∀ m, denC prog ann 46 [.int .i64 v, .int .i64 k, .int .i64 often] m = some (w', m) := by
  have hcl : closedL [.int .i64 v, .int .i64 k, .int .i64 often] = true := rfl
  have hw1 : IntKind.wrap .i64 ((k : Int) - 1) = (k : Int) - 1 := wrap_id (by omega) (by omega)
  have hw2 : IntKind.wrap .i64 ((v : Int) - 1) = (v : Int) - 1 := wrap_id (by omega) (by omega)
  have p0 : 0 ≤ (k : Int) * ((k : Int) - 1) := Int.mul_nonneg (by omega) (by omega)
  have p1 : (k : Int) * ((k : Int) - 1) ≤ 40 * 40 := Int.mul_le_mul (by omega) (by omega) (by omega) (by omega)
  have hw3 : IntKind.wrap .i64 ((k : Int) * ((k : Int) - 1)) = (k : Int) * ((k : Int) - 1) := wrap_id (by omega) (by omega)
  have p2 : 0 ≤ often * ((v : Int) - 1) := Int.mul_nonneg (by omega) (by omega)
  have p3 : often * ((v : Int) - 1) ≤ 40 * 40 := Int.mul_le_mul (by omega) (by omega) (by omega) (by omega)
  have hw4 : IntKind.wrap .i64 (often * ((v : Int) - 1)) = often * ((v : Int) - 1) := wrap_id (by omega) (by omega)
  have e : ((k * (k - 1) : Nat) : Int) = (k : Int) * ((k : Int) - 1) := by
    rw [Int.natCast_mul]; congr 1; omega
  have one_top : top [0] ≤ (v : Int) - 1 := by show (0 : Int) ≤ _; omega
  by_cases q : (k : Int) * ((k : Int) - 1) = often * ((v : Int) - 1)
  · obtain ⟨w', r, ew⟩ := find_spec (clo_round h1 often) (clo_true ((v : Int) - 1)) (size := k) (by omega) (by omega) (k - 1) true [0] one_ok one_top (by simp; omega)
    simp at ew
    rw [find_rr h1 (by omega) (k := k) (by omega) (by rw [e]; exact q) (k - 1) [0] one_ok one_top (by simp; omega)] at r
    refine ⟨w', r, fun m => ?_⟩
    rw [strap_round.call_eq _ _ _ _ hcl]
    rw [q] at hw3
    simp [hw1, hw2, hw3, hw4, q, ew, r.deep]
    done
  · rw [rr_count h1 (by omega) (k := k) (by omega) (by rw [e]; exact q) (k - 1) [0] one_ok one_top (by simp; omega)]
    refine ⟨.nils, rfl, fun m => ?_⟩
    rw [strap_round.call_eq _ _ _ _ hcl]
    simp [hw1, hw2, hw3, hw4, q]
    done
def BadR (v k often : Int) : Prop := v < 2 ∨ 31 < v ∨ k < 2 ∨ 6 < k ∨ v - 1 < k ∨ often < 1 ∨ v < often
theorem rnd_ok {v k : Nat} {often : Int} (h : ¬ BadR v k often) : ∃ w' e, ResV (rrF v often (k - 1) [0]) w' ∧ (e = if (rrF v often (k - 1) [0]).isNone = true then 5 else 0) ∧ ∀ m, denC prog ann 17 [.int .i64 v, .int .i64 k, .int .i64 often] m = some (.tup [w', .int .i64 e], m) := by
  have hcl : closedL [.int .i64 v, .int .i64 k, .int .i64 often] = true := rfl
  unfold BadR at h
  obtain ⟨w', r, e⟩ := round_spec (v := v) (k := k) (often := often) (by omega) (by omega) (by omega)
  have q1 : ¬ (v : Int) < 2 := by omega
  have q2 : ¬ (31 : Int) < v := by omega
  have q3 : ¬ (k : Int) < 2 := by omega
  have q4 : ¬ min 6 ((v : Int) - 1) < k := by omega
  have q5 : ¬ often < 1 := by omega
  have q6 : ¬ (v : Int) < often := by omega
  have hw : IntKind.wrap .i64 ((v : Int) - 1) = (v : Int) - 1 := wrap_id (by omega) (by omega)
  cases hf : rrF v often (k - 1) [0] with
  | some q =>
    rw [hf] at r
    obtain ⟨ex', rfl⟩ := r
    refine ⟨_, _, ⟨ex', rfl⟩, rfl, fun m => ?_⟩
    rw [strap_Round.call_eq _ _ _ _ hcl]
    simp [q1, q2, q3, q4, q5, q6, hw, e]
    done
  | none =>
    rw [hf] at r
    have r' : w' = .nils := r
    subst r'
    refine ⟨_, _, rfl, rfl, fun m => ?_⟩
    rw [strap_Round.call_eq _ _ _ _ hcl]
    simp [q1, q2, q3, q4, q5, q6, hw, e]
    done
end Go.Proofs.Ytpghadmpegncgaa

/-
  THE FIRST EVEN ROUND STRAPS OF PLANES, AND THEIR LEAST FORMS: the values, by the kernel. Conditions: none.
-/
namespace Go.Proofs.Ytpghadmpegncgaa
open Go.AM
set_option linter.all false
set_option maxRecDepth 100000
theorem sf2 : findF (gRound ((7 : Nat) : Int) 1) (fun _ => true) (((7 : Nat) : Int) - 1) 2 [0] = some [0, 1, 3] := by kernel_rfl
theorem sf3 : findF (gRound ((13 : Nat) : Int) 1) (fun _ => true) (((13 : Nat) : Int) - 1) 3 [0] = some [0, 1, 3, 9] := by kernel_rfl
theorem sf5 : findF (gRound ((31 : Nat) : Int) 1) (fun _ => true) (((31 : Nat) : Int) - 1) 5 [0] = some [0, 1, 3, 8, 12, 18] := by kernel_rfl
theorem sc2 : canonL 7 [0, 1, 3] = [0, 1, 3] := by kernel_rfl
theorem sc3 : canonL 13 [0, 1, 3, 9] = [0, 1, 3, 9] := by kernel_rfl
theorem sc5 : canonL 31 [0, 1, 3, 8, 12, 18] = [0, 1, 3, 8, 12, 18] := by kernel_rfl
end Go.Proofs.Ytpghadmpegncgaa

/-
  BODIES OF FUNCTIONS OF THE PROGRAM AS SMALL OPERATIONS (written by gen.py; checked by the kernel against the program). Conditions: none.
-/
namespace Go.Proofs.Ytpghadmpegncgaa
open Go.AM
open Go.Proofs.Try (prog)
set_option maxRecDepth 100000
set_option linter.all false

namespace strap_Singer
/-- pommel/strap.Singer -/
noncomputable def b : Code := (Try.f40.body).getD .skip
theorem hf : prog.funcs[40]? = some Try.f40 := by kernel_rfl
noncomputable def r0 : Code := findReg b 0
noncomputable def r1 : Code := findReg b 1
noncomputable def i0 : Code := findCond b 0
noncomputable def i0t : Code := thenOf i0
noncomputable def i0e : Code := elseOf i0
noncomputable def r2 : Code := findReg b 2
noncomputable def r3 : Code := findReg b 3
noncomputable def r4 : Code := findReg b 4
theorem b_eq (K : List Item) (s : St) : den prog ann 40 (.code b :: K) s = den prog ann 40 (.code r0 :: .code r1 :: .code i0 :: .code r3 :: .code r4 :: .code .ret :: K) s := den_flat hf (l := [r0, r1, i0, r3, r4, .ret]) (by kernel_rfl) K s
theorem r0_eq (K : List Item) (s : St) : den prog ann 40 (.code r0 :: K) s = mreg prog ann 40 none [] none [] [
    ⟨some 2, none, .v fun s => some (.nils)⟩,
    ⟨some 3, none, .v fun s => some (.int .i64 0)⟩] K s := (den_reg hf _ K s).trans (by kernel_rfl)
theorem r1_eq (K : List Item) (s : St) : den prog ann 40 (.code r1 :: K) s = mreg prog ann 40 none [] none [] [
    ⟨some 5, none, .v fun s => some (s.get 0)⟩,
    ⟨some 6, none, .v fun s => binA prog .neq 3 (s.get 5) (.int .i64 2)⟩,
    ⟨some 7, none, .v fun s => some (s.get 6)⟩,
    ⟨some 8, some (7, true), .v fun s => some (s.get 0)⟩,
    ⟨some 9, some (7, true), .v fun s => binA prog .neq 3 (s.get 8) (.int .i64 3)⟩,
    ⟨some 10, none, .v fun s => pickA (s.get 7) (s.get 9) (.bool false)⟩,
    ⟨some 11, none, .v fun s => some (s.get 10)⟩,
    ⟨some 12, some (11, true), .v fun s => some (s.get 0)⟩,
    ⟨some 13, some (11, true), .v fun s => binA prog .neq 3 (s.get 12) (.int .i64 5)⟩,
    ⟨some 14, none, .v fun s => pickA (s.get 11) (s.get 13) (.bool false)⟩] K s := (den_reg hf _ K s).trans (by kernel_rfl)
theorem i0_eq (K : List Item) (s : St) : den prog ann 40 (.code i0 :: K) s = ifV prog ann 40 14 i0t i0e K s (s.get 14) := den_if hf (by kernel_rfl) K s
theorem i0t_eq (K : List Item) (s : St) : den prog ann 40 (.code i0t :: K) s = den prog ann 40 (.code r2 :: .code .ret :: K) s := den_flat hf (l := [r2, .ret]) (by kernel_rfl) K s
theorem r2_eq (K : List Item) (s : St) : den prog ann 40 (.code r2 :: K) s = mreg prog ann 40 none [] none [] [
    ⟨some 2, none, .v fun s => some (.nils)⟩,
    ⟨some 3, none, .v fun s => some (.int .i64 1)⟩] K s := (den_reg hf _ K s).trans (by kernel_rfl)
theorem i0e_eq (K : List Item) (s : St) : den prog ann 40 (.code i0e :: K) s = den prog ann 40 (K) s := den_flat hf (l := []) (by kernel_rfl) K s
theorem r3_eq (K : List Item) (s : St) : den prog ann 40 (.code r3 :: K) s = mreg prog ann 40 none [] none [] [
    ⟨some 15, none, .v fun s => some (s.get 0)⟩,
    ⟨some 16, none, .v fun s => some (s.get 0)⟩,
    ⟨some 17, none, .v fun s => binA prog .mul 3 (s.get 15) (s.get 16)⟩,
    ⟨some 18, none, .v fun s => some (s.get 0)⟩,
    ⟨some 19, none, .v fun s => binA prog .add 3 (s.get 17) (s.get 18)⟩,
    ⟨some 20, none, .v fun s => binA prog .add 3 (s.get 19) (.int .i64 1)⟩,
    ⟨some 4, none, .v fun s => some (s.get 20)⟩] K s := (den_reg hf _ K s).trans (by kernel_rfl)
theorem r4_eq (K : List Item) (s : St) : den prog ann 40 (.code r4 :: K) s = mreg prog ann 40 none [] none [] [
    ⟨some 21, none, .v fun s => some (s.get 4)⟩,
    ⟨some 22, none, .v fun s => some (s.get 4)⟩,
    ⟨some 23, none, .v fun s => some (s.get 0)⟩,
    ⟨some 24, none, .v fun s => binA prog .add 3 (s.get 23) (.int .i64 1)⟩,
    ⟨some 25, none, .c 0 (fun s => (.fn 46 [] [])) fun s => [(s.get 22), (s.get 24), (.int .i64 1)]⟩,
    ⟨some 26, none, .c 0 (fun s => (.fn 63 [] [])) fun s => [(s.get 21), (s.get 25)]⟩,
    ⟨some 2, none, .v fun s => some (s.get 26)⟩,
    ⟨some 3, none, .v fun s => some (.int .i64 0)⟩] K s := (den_reg hf _ K s).trans (by kernel_rfl)
theorem ret_eq (K : List Item) (s : St) : den prog ann 40 (.code .ret :: K) s = finM true [fun s => some (s.get 2), fun s => some (s.get 3)] s := (den_ret hf K s).trans (by kernel_rfl)
theorem nil_eq (s : St) : den prog ann 40 [] s = finM true [fun s => some (s.get 2), fun s => some (s.get 3)] s := (den_nil hf s).trans (by kernel_rfl)
theorem inBlock_eq (id : Nat) (K : List Item) (s : St) : den prog ann 40 (.inBlock id :: K) s = den prog ann 40 K s := den_inBlock hf id K s
theorem exit_eq (id : Nat) (K : List Item) (s : St) : den prog ann 40 (.code (.exit id) :: K) s = exitV prog ann 40 (exitTo id K) s := den_exitV hf id K s
theorem call_eq (v0 : AV) (m : Mem) (h : closedL [v0] = true) : denC prog ann 40 [v0] m = (den prog ann 40 [.code b] ⟨[(0, v0)], 27, Mem.empty⟩).bind fun r => some (r.1, m) := (denC_pure hf (b := b) (by kernel_rfl) (by kernel_rfl) (by kernel_rfl) h m).trans (by kernel_rfl)
theorem pure_eq : (ann 40).pure = true := by kernel_rfl
attribute [simp] b_eq r0_eq r1_eq i0_eq i0t_eq r2_eq i0e_eq r3_eq r4_eq ret_eq nil_eq inBlock_eq exit_eq pure_eq
end strap_Singer

namespace l04_StrapSingers
/-- pommel/pommellaw04.StrapSingers -/
noncomputable def b : Code := (Try.f12.body).getD .skip
theorem hf : prog.funcs[12]? = some Try.f12 := by kernel_rfl
noncomputable def r0 : Code := findReg b 0
noncomputable def r1 : Code := findReg b 1
noncomputable def r2 : Code := findReg b 2
noncomputable def i0 : Code := findCond b 0
noncomputable def i0t : Code := thenOf i0
noncomputable def i0e : Code := elseOf i0
noncomputable def r3 : Code := findReg b 3
noncomputable def r4 : Code := findReg b 4
noncomputable def r5 : Code := findReg b 5
noncomputable def r6 : Code := findReg b 6
noncomputable def i1 : Code := findCond b 1
noncomputable def i1t : Code := thenOf i1
noncomputable def i1e : Code := elseOf i1
noncomputable def r7 : Code := findReg b 7
noncomputable def r8 : Code := findReg b 8
noncomputable def i2 : Code := findCond b 2
noncomputable def i2t : Code := thenOf i2
noncomputable def i2e : Code := elseOf i2
noncomputable def r9 : Code := findReg b 9
noncomputable def r10 : Code := findReg b 10
noncomputable def r11 : Code := findReg b 11
theorem b_eq (K : List Item) (s : St) : den prog ann 12 (.code b :: K) s = den prog ann 12 (.code r0 :: .code r1 :: .code r2 :: .code i0 :: .code r4 :: .code r5 :: .code r6 :: .code i1 :: .code r8 :: .code i2 :: .code r10 :: .code r11 :: .code .ret :: K) s := den_flat hf (l := [r0, r1, r2, i0, r4, r5, r6, i1, r8, i2, r10, r11, .ret]) (by kernel_rfl) K s
theorem r0_eq (K : List Item) (s : St) : den prog ann 12 (.code r0 :: K) s = mreg prog ann 12 none [] none [] [
    ⟨some 2, none, .v fun s => some (.bool false)⟩] K s := (den_reg hf _ K s).trans (by kernel_rfl)
theorem r1_eq (K : List Item) (s : St) : den prog ann 12 (.code r1 :: K) s = mreg prog ann 12 none [] none [] [
    ⟨some 11, none, .v fun s => some (s.get 0)⟩,
    ⟨some 12, none, .c 0 (fun s => (.fn 40 [] [])) fun s => [(s.get 11)]⟩,
    ⟨some 10, none, .v fun s => some (s.get 12)⟩,
    ⟨some 13, none, .v fun s => extA (s.get 10) 0⟩,
    ⟨some 14, none, .v fun s => extA (s.get 10) 1⟩,
    ⟨some 3, none, .v fun s => some (s.get 13)⟩,
    ⟨some 4, none, .v fun s => some (s.get 14)⟩] K s := (den_reg hf _ K s).trans (by kernel_rfl)
theorem r2_eq (K : List Item) (s : St) : den prog ann 12 (.code r2 :: K) s = mreg prog ann 12 none [] none [] [
    ⟨some 15, none, .v fun s => some (s.get 0)⟩,
    ⟨some 16, none, .v fun s => binA prog .neq 3 (s.get 15) (.int .i64 2)⟩,
    ⟨some 17, none, .v fun s => some (s.get 16)⟩,
    ⟨some 18, some (17, true), .v fun s => some (s.get 0)⟩,
    ⟨some 19, some (17, true), .v fun s => binA prog .neq 3 (s.get 18) (.int .i64 3)⟩,
    ⟨some 20, none, .v fun s => pickA (s.get 17) (s.get 19) (.bool false)⟩,
    ⟨some 21, none, .v fun s => some (s.get 20)⟩,
    ⟨some 22, some (21, true), .v fun s => some (s.get 0)⟩,
    ⟨some 23, some (21, true), .v fun s => binA prog .neq 3 (s.get 22) (.int .i64 5)⟩,
    ⟨some 24, none, .v fun s => pickA (s.get 21) (s.get 23) (.bool false)⟩] K s := (den_reg hf _ K s).trans (by kernel_rfl)
theorem i0_eq (K : List Item) (s : St) : den prog ann 12 (.code i0 :: K) s = ifV prog ann 12 24 i0t i0e K s (s.get 24) := den_if hf (by kernel_rfl) K s
theorem i0t_eq (K : List Item) (s : St) : den prog ann 12 (.code i0t :: K) s = den prog ann 12 (.code r3 :: .code .ret :: K) s := den_flat hf (l := [r3, .ret]) (by kernel_rfl) K s
theorem r3_eq (K : List Item) (s : St) : den prog ann 12 (.code r3 :: K) s = mreg prog ann 12 none [] none [] [
    ⟨some 25, none, .v fun s => some (s.get 3)⟩,
    ⟨some 26, none, .v fun s => lenSl (s.get 25)⟩,
    ⟨some 27, none, .v fun s => binA prog .eql 3 (s.get 26) (.int .i64 0)⟩,
    ⟨some 28, none, .v fun s => some (s.get 27)⟩,
    ⟨some 29, some (28, true), .v fun s => some (s.get 4)⟩,
    ⟨some 30, some (28, true), .v fun s => binA prog .eql 23 (s.get 29) (.int .i64 1)⟩,
    ⟨some 31, none, .v fun s => pickA (s.get 28) (s.get 30) (.bool false)⟩,
    ⟨some 32, none, .v fun s => some (s.get 31)⟩,
    ⟨some 33, some (32, true), .c 0 (fun s => (.fn 14 [] [])) fun s => []⟩,
    ⟨some 34, none, .v fun s => pickA (s.get 32) (s.get 33) (.bool false)⟩,
    ⟨some 2, none, .v fun s => some (s.get 34)⟩] K s := (den_reg hf _ K s).trans (by kernel_rfl)
theorem i0e_eq (K : List Item) (s : St) : den prog ann 12 (.code i0e :: K) s = den prog ann 12 (K) s := den_flat hf (l := []) (by kernel_rfl) K s
theorem r4_eq (K : List Item) (s : St) : den prog ann 12 (.code r4 :: K) s = mreg prog ann 12 none [] none [] [
    ⟨some 35, none, .v fun s => some (s.get 0)⟩,
    ⟨some 36, none, .v fun s => some (s.get 0)⟩,
    ⟨some 37, none, .v fun s => binA prog .mul 3 (s.get 35) (s.get 36)⟩,
    ⟨some 38, none, .v fun s => some (s.get 0)⟩,
    ⟨some 39, none, .v fun s => binA prog .add 3 (s.get 37) (s.get 38)⟩,
    ⟨some 40, none, .v fun s => binA prog .add 3 (s.get 39) (.int .i64 1)⟩,
    ⟨some 5, none, .v fun s => some (s.get 40)⟩] K s := (den_reg hf _ K s).trans (by kernel_rfl)
theorem r5_eq (K : List Item) (s : St) : den prog ann 12 (.code r5 :: K) s = mreg prog ann 12 none [] none [] [
    ⟨some 41, none, .v fun s => some (s.get 5)⟩,
    ⟨some 42, none, .v fun s => some (s.get 3)⟩,
    ⟨some 43, none, .c 0 (fun s => (.fn 32 [] [])) fun s => [(s.get 41), (s.get 42)]⟩,
    ⟨some 44, none, .v fun s => binA prog .eql 23 (s.get 43) (.int .i64 0)⟩,
    ⟨some 6, none, .v fun s => some (.int .i64 0)⟩,
    ⟨some 7, none, .v fun s => some (s.get 44)⟩] K s := (den_reg hf _ K s).trans (by kernel_rfl)
theorem r6_eq (K : List Item) (s : St) : den prog ann 12 (.code r6 :: K) s = mreg prog ann 12 none [] none [] [
    ⟨some 45, none, .v fun s => some (s.get 7)⟩] K s := (den_reg hf _ K s).trans (by kernel_rfl)
theorem i1_eq (K : List Item) (s : St) : den prog ann 12 (.code i1 :: K) s = ifV prog ann 12 45 i1t i1e K s (s.get 45) := den_if hf (by kernel_rfl) K s
theorem i1t_eq (K : List Item) (s : St) : den prog ann 12 (.code i1t :: K) s = den prog ann 12 (.code r7 :: K) s := den_flat hf (l := [r7]) (by kernel_rfl) K s
theorem r7_eq (K : List Item) (s : St) : den prog ann 12 (.code r7 :: K) s = mreg prog ann 12 none [] none [] [
    ⟨some 47, none, .v fun s => some (s.get 5)⟩,
    ⟨some 48, none, .v fun s => some (s.get 3)⟩,
    ⟨some 49, none, .c 0 (fun s => (.fn 33 [] [])) fun s => [(s.get 47), (s.get 48)]⟩,
    ⟨some 46, none, .v fun s => some (s.get 49)⟩,
    ⟨some 50, none, .v fun s => extA (s.get 46) 0⟩,
    ⟨some 51, none, .v fun s => extA (s.get 46) 1⟩,
    ⟨some 6, none, .v fun s => some (s.get 50)⟩,
    ⟨some 7, none, .v fun s => some (s.get 51)⟩] K s := (den_reg hf _ K s).trans (by kernel_rfl)
theorem i1e_eq (K : List Item) (s : St) : den prog ann 12 (.code i1e :: K) s = den prog ann 12 (K) s := den_flat hf (l := []) (by kernel_rfl) K s
theorem r8_eq (K : List Item) (s : St) : den prog ann 12 (.code r8 :: K) s = mreg prog ann 12 (some [0, 3, 4, 5, 6, 7]) [] none [] [
    ⟨some 52, none, .v fun s => some (s.get 7)⟩,
    ⟨some 53, none, .v fun s => unA .not (s.get 52)⟩,
    ⟨some 54, none, .v fun s => some (s.get 53)⟩,
    ⟨some 55, some (54, false), .v fun s => some (s.get 6)⟩,
    ⟨some 56, some (54, false), .v fun s => binA prog .neq 3 (s.get 55) (.int .i64 1)⟩,
    ⟨some 57, none, .v fun s => pickA (s.get 54) (.bool true) (s.get 56)⟩,
    ⟨some 58, none, .v fun s => some (s.get 57)⟩,
    ⟨some 59, some (58, false), .v fun s => some (s.get 3)⟩,
    ⟨some 60, some (58, false), .v fun s => lenSl (s.get 59)⟩,
    ⟨some 61, some (58, false), .v fun s => some (s.get 0)⟩,
    ⟨some 62, some (58, false), .v fun s => binA prog .add 3 (s.get 61) (.int .i64 1)⟩,
    ⟨some 63, some (58, false), .v fun s => binA prog .neq 3 (s.get 60) (s.get 62)⟩,
    ⟨some 64, none, .v fun s => pickA (s.get 58) (.bool true) (s.get 63)⟩,
    ⟨some 65, none, .v fun s => some (s.get 64)⟩,
    ⟨some 66, some (65, false), .v fun s => some (s.get 4)⟩,
    ⟨some 67, some (65, false), .v fun s => binA prog .neq 23 (s.get 66) (.int .i64 0)⟩,
    ⟨some 68, none, .v fun s => pickA (s.get 65) (.bool true) (s.get 67)⟩,
    ⟨some 69, none, .v fun s => some (s.get 68)⟩,
    ⟨some 70, some (69, false), .v fun s => some (s.get 5)⟩,
    ⟨some 71, some (69, false), .v fun s => some (s.get 3)⟩,
    ⟨some 72, some (69, false), .c 0 (fun s => (.fn 37 [] [])) fun s => [(s.get 70), (s.get 71)]⟩,
    ⟨some 73, some (69, false), .v fun s => some (s.get 3)⟩,
    ⟨some 74, some (69, false), .c 0 (fun s => (.fn 15 [] [])) fun s => [(s.get 72), (s.get 73)]⟩,
    ⟨some 75, some (69, false), .v fun s => unA .not (s.get 74)⟩,
    ⟨some 76, none, .v fun s => pickA (s.get 69) (.bool true) (s.get 75)⟩,
    ⟨some 77, none, .v fun s => some (s.get 76)⟩,
    ⟨some 78, some (77, false), .c 0 (fun s => (.fn 14 [] [])) fun s => []⟩,
    ⟨some 79, some (77, false), .v fun s => unA .not (s.get 78)⟩,
    ⟨some 80, none, .v fun s => pickA (s.get 77) (.bool true) (s.get 79)⟩] K s := (den_reg hf _ K s).trans (by kernel_rfl)
theorem i2_eq (K : List Item) (s : St) : den prog ann 12 (.code i2 :: K) s = ifV prog ann 12 80 i2t i2e K s (s.get 80) := den_if hf (by kernel_rfl) K s
theorem i2t_eq (K : List Item) (s : St) : den prog ann 12 (.code i2t :: K) s = den prog ann 12 (.code r9 :: .code .ret :: K) s := den_flat hf (l := [r9, .ret]) (by kernel_rfl) K s
theorem r9_eq (K : List Item) (s : St) : den prog ann 12 (.code r9 :: K) s = mreg prog ann 12 none [] none [] [
    ⟨some 2, none, .v fun s => some (.bool false)⟩] K s := (den_reg hf _ K s).trans (by kernel_rfl)
theorem i2e_eq (K : List Item) (s : St) : den prog ann 12 (.code i2e :: K) s = den prog ann 12 (K) s := den_flat hf (l := []) (by kernel_rfl) K s
theorem r10_eq (K : List Item) (s : St) : den prog ann 12 (.code r10 :: K) s = mreg prog ann 12 none [] none [] [
    ⟨some 82, none, .v fun s => some (s.get 5)⟩,
    ⟨some 83, none, .v fun s => some (s.get 0)⟩,
    ⟨some 84, none, .v fun s => binA prog .add 3 (s.get 83) (.int .i64 1)⟩,
    ⟨some 85, none, .c 0 (fun s => (.fn 17 [] [])) fun s => [(s.get 82), (s.get 84), (.int .i64 1)]⟩,
    ⟨some 81, none, .v fun s => some (s.get 85)⟩,
    ⟨some 86, none, .v fun s => extA (s.get 81) 0⟩,
    ⟨some 87, none, .v fun s => extA (s.get 81) 1⟩,
    ⟨some 8, none, .v fun s => some (s.get 86)⟩,
    ⟨some 9, none, .v fun s => some (s.get 87)⟩] K s := (den_reg hf _ K s).trans (by kernel_rfl)
theorem r11_eq (K : List Item) (s : St) : den prog ann 12 (.code r11 :: K) s = mreg prog ann 12 none [] none [] [
    ⟨some 88, none, .v fun s => some (s.get 9)⟩,
    ⟨some 89, none, .v fun s => binA prog .eql 23 (s.get 88) (.int .i64 0)⟩,
    ⟨some 90, none, .v fun s => some (s.get 89)⟩,
    ⟨some 91, some (90, true), .v fun s => some (s.get 5)⟩,
    ⟨some 92, some (90, true), .v fun s => some (s.get 8)⟩,
    ⟨some 93, some (90, true), .c 0 (fun s => (.fn 32 [] [])) fun s => [(s.get 91), (s.get 92)]⟩,
    ⟨some 94, some (90, true), .v fun s => binA prog .eql 23 (s.get 93) (.int .i64 0)⟩,
    ⟨some 95, none, .v fun s => pickA (s.get 90) (s.get 94) (.bool false)⟩,
    ⟨some 96, none, .v fun s => some (s.get 95)⟩,
    ⟨some 97, some (96, true), .v fun s => some (s.get 5)⟩,
    ⟨some 98, some (96, true), .v fun s => some (s.get 8)⟩,
    ⟨some 99, some (96, true), .c 0 (fun s => (.fn 37 [] [])) fun s => [(s.get 97), (s.get 98)]⟩,
    ⟨some 100, some (96, true), .v fun s => some (s.get 3)⟩,
    ⟨some 101, some (96, true), .c 0 (fun s => (.fn 15 [] [])) fun s => [(s.get 99), (s.get 100)]⟩,
    ⟨some 102, none, .v fun s => pickA (s.get 96) (s.get 101) (.bool false)⟩,
    ⟨some 2, none, .v fun s => some (s.get 102)⟩] K s := (den_reg hf _ K s).trans (by kernel_rfl)
theorem ret_eq (K : List Item) (s : St) : den prog ann 12 (.code .ret :: K) s = finM true [fun s => some (s.get 2)] s := (den_ret hf K s).trans (by kernel_rfl)
theorem nil_eq (s : St) : den prog ann 12 [] s = finM true [fun s => some (s.get 2)] s := (den_nil hf s).trans (by kernel_rfl)
theorem inBlock_eq (id : Nat) (K : List Item) (s : St) : den prog ann 12 (.inBlock id :: K) s = den prog ann 12 K s := den_inBlock hf id K s
theorem exit_eq (id : Nat) (K : List Item) (s : St) : den prog ann 12 (.code (.exit id) :: K) s = exitV prog ann 12 (exitTo id K) s := den_exitV hf id K s
theorem call_eq (v0 : AV) (m : Mem) (h : closedL [v0] = true) : denC prog ann 12 [v0] m = (den prog ann 12 [.code b] ⟨[(0, v0)], 103, Mem.empty⟩).bind fun r => some (r.1, m) := (denC_pure hf (b := b) (by kernel_rfl) (by kernel_rfl) (by kernel_rfl) h m).trans (by kernel_rfl)
theorem pure_eq : (ann 12).pure = true := by kernel_rfl
attribute [simp] b_eq r0_eq r1_eq r2_eq i0_eq i0t_eq r3_eq i0e_eq r4_eq r5_eq r6_eq i1_eq i1t_eq r7_eq i1e_eq r8_eq i2_eq i2t_eq r9_eq i2e_eq r10_eq r11_eq ret_eq nil_eq inBlock_eq exit_eq pure_eq
end l04_StrapSingers

end Go.Proofs.Ytpghadmpegncgaa

/-
  THE LAWS' EXAMPLES HOLD. Conditions: none.
-/
namespace Go.Proofs.Ytpghadmpegncgaa
open Go.AM
open Go.Proofs.Try (prog)
set_option linter.all false
set_option maxRecDepth 1000000

def isT (r : Option Res) : Bool := match r with
  | some (.bool b, _) => b
  | _ => false
theorem lives_run : isT (callN prog ann 3000 14 [] Mem.empty) = true := by kernel_rfl
@[simp] theorem lives_pure : (ann 14).pure = true := by kernel_rfl
theorem f14_at : prog.funcs[14]? = some Try.f14 := by kernel_rfl
theorem f14_some : Try.f14.body.isSome = true := by kernel_rfl
theorem lives_spec (m : Mem) : denC prog ann 14 [] m = some (.bool true, m) := by
  have hb : Try.f14.body = some (Try.f14.body.getD .skip) := by
    cases h : Try.f14.body with
    | none => have := f14_some; rw [h] at this; cases this
    | some b => rfl
  have e := fun m => denC_pure (P := prog) (A := ann) (f := 14) f14_at hb (by kernel_rfl) (by kernel_rfl) (show closedL [] = true from rfl) m
  have h := lives_run
  cases hr : callN prog ann 3000 14 [] Mem.empty with
  | none => rw [hr] at h; cases h
  | some r =>
    rw [hr] at h
    have h2 := denC_of_callN hr
    rw [e] at h2 ⊢
    obtain ⟨q, h3, h4⟩ := Option.bind_eq_some_iff.1 h2
    rw [h3]
    simp at h4
    subst h4
    match q, h with
    | (.bool true, _), _ => rfl
end Go.Proofs.Ytpghadmpegncgaa

/-
  StrapSingers: the law answers true. Conditions: none.
-/
namespace Go.Proofs.Ytpghadmpegncgaa
open Go.AM
open Go.Proofs.Try (prog)
set_option linter.all false
set_option maxRecDepth 100000
set_option maxHeartbeats 4000000

/-- The first even round strap of a plane; it is its own least form. -/
structure Plane (q v : Nat) (R : List Int) : Prop where
  hq : v = q * q + q + 1
  q2 : 2 ≤ q ∧ q ≤ 5
  len : R.length = q + 1
  ring : RingOk v R
  find : rrF v 1 q [0] = some R
  can : canonL v R = R
  even : eqA (diffs v R) (v - 1) 1 = true ∧ nth (diffs v R) 1 = 1
theorem ring_dec {v : Nat} {R : List Int} (h2 : 2 ≤ v ∧ v ≤ 31) (h : 0 < R.length ∧ R.length ≤ 31) (e : (List.range' 0 R.length).all (rOk v R) = true) : RingOk v R := (rOk_ring (by omega) h).2 e
theorem plane2 : Plane 2 7 [0, 1, 3] := ⟨rfl, by omega, rfl, ring_dec (by omega) (by decide) (by decide), by
  rw [← find_rr (v := 7) (often := 1) (by omega) (by omega) (k := 3) (by omega) (by decide) 2 [0] one_ok (by decide) rfl]; exact sf2, sc2, by decide, by decide⟩
theorem plane3 : Plane 3 13 [0, 1, 3, 9] := ⟨rfl, by omega, rfl, ring_dec (by omega) (by decide) (by decide), by
  rw [← find_rr (v := 13) (often := 1) (by omega) (by omega) (k := 4) (by omega) (by decide) 3 [0] one_ok (by decide) rfl]; exact sf3, sc3, by decide, by decide⟩
theorem even5 : eqA (diffs ((31 : Nat) : Int) [0, 1, 3, 8, 12, 18]) (31 - 1) 1 = true := by kernel_rfl
theorem one5 : nth (diffs ((31 : Nat) : Int) [0, 1, 3, 8, 12, 18]) 1 = 1 := by kernel_rfl
theorem plane5 : Plane 5 31 [0, 1, 3, 8, 12, 18] := ⟨rfl, by omega, rfl, ring_dec (by omega) (by decide) (by decide), by
  rw [← find_rr (v := 31) (often := 1) (by omega) (by omega) (k := 6) (by omega) (by decide) 5 [0] one_ok (by decide) rfl]; exact sf5, sc5, even5, one5⟩
theorem plane_all {q : Int} (h : q = 2 ∨ q = 3 ∨ q = 5) : ∃ (n v : Nat) (R : List Int), q = n ∧ Plane n v R := by
  rcases h with rfl | rfl | rfl
  · exact ⟨2, 7, _, rfl, plane2⟩
  · exact ⟨3, 13, _, rfl, plane3⟩
  · exact ⟨5, 31, _, rfl, plane5⟩
theorem Plane.wraps {q v : Nat} {R : List Int} (p : Plane q v R) : IntKind.wrap .i64 ((q : Int) * q) = (q : Int) * q ∧ IntKind.wrap .i64 ((q : Int) * q + q) = (q : Int) * q + q ∧ IntKind.wrap .i64 ((q : Int) * q + q + 1) = (v : Int) ∧ IntKind.wrap .i64 ((q : Int) + 1) = ((q + 1 : Nat) : Int) := by
  have h := p.q2
  have hq : (v : Int) = (q : Int) * q + q + 1 := by rw [p.hq]; simp
  have p0 : 0 ≤ (q : Int) * q := Int.mul_nonneg (by omega) (by omega)
  have p1 : (q : Int) * q ≤ 5 * 5 := Int.mul_le_mul (by omega) (by omega) (by omega) (by omega)
  refine ⟨wrap_id (by omega) (by omega), wrap_id (by omega) (by omega), ?_, ?_⟩
  · rw [hq]; exact wrap_id (by omega) (by omega)
  · rw [wrap_id (by omega) (by omega)]; omega
theorem Plane.bounds {q v : Nat} {R : List Int} (p : Plane q v R) : 7 ≤ v ∧ v ≤ 31 := by
  have h := p.q2
  have := p.ring.v31
  have hm : 2 * 2 ≤ q * q := Nat.mul_le_mul h.1 h.1
  have := p.hq
  omega
theorem singer_spec {q v : Nat} {R : List Int} (p : Plane q v R) (hq : (q : Int) = 2 ∨ (q : Int) = 3 ∨ (q : Int) = 5) : ∃ w', IsInts w' R ∧ ∀ m, denC prog ann 40 [.int .i64 q] m = some (.tup [w', .int .i64 0], m) := by
  obtain ⟨x1, x2, x3, x4⟩ := p.wraps
  have h := p.q2
  have hb := p.bounds
  obtain ⟨w0, r0, e0⟩ := round_spec (v := v) (k := q + 1) (often := 1) (by omega) (by omega) (by omega)
  rw [Nat.add_sub_cancel, p.find] at r0
  obtain ⟨ex, rfl⟩ := r0
  have hv0 : IsInts (.fsl ex R.length (ints R)) R := .inr ⟨ex, rfl⟩
  obtain ⟨w', h1, h2⟩ := canon_spec hv0 p.ring
  rw [p.can] at h1
  refine ⟨w', h1, fun m => ?_⟩
  rw [strap_Singer.call_eq _ _ rfl]
  have pv := p.hq
  have hq' : q = 2 ∨ q = 3 ∨ q = 5 := by omega
  rcases hq' with rfl | rfl | rfl <;> subst pv <;> simp at e0 h2 <;> simp [e0, h2, h1.deep]
theorem singer_bad {q : Int} (h : ¬ (q = 2 ∨ q = 3 ∨ q = 5)) (m : Mem) : denC prog ann 40 [.int .i64 q] m = some (.tup [.nils, .int .i64 1], m) := by
  have h2 : ¬ q = 2 := by omega
  have h3 : ¬ q = 3 := by omega
  have h5 : ¬ q = 5 := by omega
  rw [strap_Singer.call_eq _ _ rfl]
  simp [h2, h3, h5]
  done
theorem sgr_runs {d : Nat} (a0 : AV) (h0 : DatV prog (d + 4) 3 a0) : ∃ m', denC prog ann 12 [a0] Mem.empty = some (.bool true, m') := by
  obtain ⟨q0, rfl, _, _⟩ := datV3 h0
  refine ⟨Mem.empty, ?_⟩
  rw [l04_StrapSingers.call_eq _ _ rfl]
  by_cases h : q0 = 2 ∨ q0 = 3 ∨ q0 = 5
  · obtain ⟨q, v, R, rfl, p⟩ := plane_all h
    have hb := p.bounds
    have hq2 := p.q2
    obtain ⟨w, i1, e1⟩ := singer_spec p h
    obtain ⟨e, he, hr, hs⟩ := ring_set i1 (by have := p.len; omega) (v : Int)
    have : e = 0 := he.uniq (.ok p.ring)
    subst this
    have hev := fun m => reven_spec i1 p.ring m
    simp only [evenV, if_pos p.even.1, p.even.2] at hev
    obtain ⟨w2, i2, e2⟩ := rcanon_spec i1 p.ring
    rw [p.can] at i2
    have hlen := i1.len
    rw [p.len] at hlen
    have h1 := fun m => same_spec i2 i1 (by have := p.len; omega) (by have := p.len; omega) m
    obtain ⟨w3, e3, r3, x3, s3⟩ := rnd_ok (v := v) (k := q + 1) (often := 1) (by
      unfold BadR
      have hm : 2 * 2 ≤ q * q := Nat.mul_le_mul hq2.1 hq2.1
      have := p.hq
      omega)
    rw [Nat.add_sub_cancel, p.find] at r3 x3
    obtain ⟨ex, rfl⟩ := r3
    have x3' : e3 = 0 := x3
    subst x3'
    have i3 : IsInts (.fsl ex R.length (ints R)) R := .inr ⟨ex, rfl⟩
    obtain ⟨e', he', _, hs'⟩ := ring_set i3 (by have := p.len; omega) (v : Int)
    have : e' = 0 := he'.uniq (.ok p.ring)
    subst this
    obtain ⟨w4, i4, e4⟩ := rcanon_spec i3 p.ring
    rw [p.can] at i4
    have h4 := fun m => same_spec i4 i1 (by have := p.len; omega) (by have := p.len; omega) m
    rw [decide_eq_true rfl] at h1 h4
    have pv := p.hq
    have hq' : q = 2 ∨ q = 3 ∨ q = 5 := by omega
    rcases hq' with rfl | rfl | rfl <;> subst pv <;> simp at e1 hs hev e2 hlen s3 hs' e4 <;> simp [e1, hs, i1.closed, hev, hlen, e2, i2.closed, h1, lives_spec, s3, hs', e4, i4.closed, h4]
  · have h2 : ¬ q0 = 2 := by omega
    have h3 : ¬ q0 = 3 := by omega
    have h5 : ¬ q0 = 5 := by omega
    simp [singer_bad h, h2, h3, h5, lives_spec]
    done
end Go.Proofs.Ytpghadmpegncgaa
