/-
  THE LAWS' EXAMPLES HOLD. Conditions: none.
-/
import Derived.Test.YtofceaeboboflaaDoorK01
import Derived.Test.YtofceaeboboflaaDoorKAmE
import Derived.Test.YtofceaeboboflaaDoorKAmH
set_option linter.all false
namespace Go.Proofs.YtofceaeboboflaaDoor
open Go.AM
open Go.Proofs.Tryd (prog)
set_option linter.all false
set_option maxRecDepth 1000000

def isT (r : Option Res) : Bool := match r with
  | some (.bool b, _) => b
  | _ => false
theorem lives_run : isT (callN prog ann 3000 9 [] Mem.empty) = true := by kernel_rfl
@[simp] theorem lives_pure : (ann 9).pure = true := by kernel_rfl
theorem f14_at : prog.funcs[9]? = some Tryd.f9 := by kernel_rfl
theorem f14_some : Tryd.f9.body.isSome = true := by kernel_rfl
theorem lives_spec (m : Mem) : denC prog ann 9 [] m = some (.bool true, m) := by
  have hb : Tryd.f9.body = some (Tryd.f9.body.getD .skip) := by
    cases h : Tryd.f9.body with
    | none => have := f14_some; rw [h] at this; cases this
    | some b => rfl
  have e := fun m => denC_pure (P := prog) (A := ann) (f := 9) f14_at hb (by kernel_rfl) (by kernel_rfl) (show closedL [] = true from rfl) m
  have h := lives_run
  cases hr : callN prog ann 3000 9 [] Mem.empty with
  | none => rw [hr] at h; cases h
  | some r =>
    rw [hr] at h
    have h2 := denC_of_callN hr
    rw [e] at h2 ⊢
    obtain ⟨q, h3, h4⟩ := Option.bind_eq_some_iff.1 h2
    rw [h3]
    simp at h4
    subst h4
    match q, h with
    | (.bool true, _), _ => rfl
end Go.Proofs.YtofceaeboboflaaDoor

/-
  StrapGroup: the law answers true. Conditions: none.
-/
namespace Go.Proofs.YtofceaeboboflaaDoor
open Go.AM
open Go.Proofs.Tryd (prog)
set_option linter.all false
set_option maxRecDepth 100000
set_option maxHeartbeats 8000000

theorem u23 : prog.underlying 23 = some (.array 3 5) := by kernel_rfl
theorem parts_three {α : Type} : ∀ {l : List α}, l.length = 3 → ∃ a b c, l = [a, b, c]
  | [a, b, c], _ => ⟨a, b, c, rfl⟩
  | [], h => by cases h
  | [_], h => by cases h
  | [_, _], h => by cases h
  | _ :: _ :: _ :: _ :: _, h => by simp at h
theorem datV23 {d : Nat} {a : AV} (h : DatV prog (d + 2) 23 a) : ∃ x y z, a = .agg [.int .u8 x, .int .u8 y, .int .u8 z] ∧ (0 ≤ x ∧ x ≤ 255) ∧ (0 ≤ y ∧ y ≤ 255) ∧ (0 ≤ z ∧ z ≤ 255) := by
  simp only [DatV, u23] at h
  obtain ⟨cs, rfl, h⟩ := h
  rw [Dat] at h
  simp only [u23] at h
  obtain ⟨parts, rfl, hl, hp⟩ := h
  obtain ⟨p, q, r, rfl⟩ := parts_three hl
  obtain ⟨x, rfl, h1, h2⟩ := dat5 (hp p (by simp)).2
  obtain ⟨y, rfl, h3, h4⟩ := dat5 (hp q (by simp)).2
  obtain ⟨z, rfl, h5, h6⟩ := dat5 (hp r (by simp)).2
  exact ⟨x, y, z, rfl, ⟨h1, h2⟩, ⟨h3, h4⟩, ⟨h5, h6⟩⟩

end Go.Proofs.YtofceaeboboflaaDoor

/-
  StrapCounts: the law answers true. Conditions: none.
-/
namespace Go.Proofs.YtofceaeboboflaaDoor
open Go.AM
open Go.Proofs.Tryd (prog)
set_option linter.all false
set_option maxRecDepth 100000
set_option maxHeartbeats 8000000

theorem datU32 {d : Nat} {a : AV} (h : DatV prog (d + 1) 22 a) : ∃ n, a = .int .u32 n ∧ 0 ≤ n ∧ n < 4294967296 := by
  simp only [DatV, u50, Dat] at h
  obtain ⟨n, e, hw⟩ := h
  refine ⟨n, by simpa using e, ?_⟩
  simp only [Lit.wf, Bool.and_eq_true, decide_eq_true_eq] at hw
  have e1 : IntKind.min .u32 = 0 := by decide
  have e2 : IntKind.max .u32 = 4294967295 := by decide
  rw [e1, e2] at hw
  omega
theorem odd_bit {x : Int} (h : 0 ≤ x ∧ x < 4294967296) (hx : x % 2 = 1) : sb x 0 = true := by
  obtain ⟨y, z, t1, t2, t3⟩ := sb_spec x 0
  have h1 : binA prog .shr 22 (.int .u32 x) (.int .i64 ((0 : Nat) : Int)) = some (.int .u32 x) := by
    rw [binA_shr, show decide (((0 : Nat) : Int) < 0) = false from rfl]
    show some (AV.int .u32 (x.fdiv 1)) = _
    rw [Int.fdiv_one]
  rw [h1] at t1
  cases t1
  have h2 := binA_and prog 22 .u32 x 1
  rw [t2] at h2
  have h3 : ((BitVec.ofInt (IntKind.bits .u32) x &&& BitVec.ofInt (IntKind.bits .u32) 1).toNat : Int) = 1 := by
    show ((BitVec.ofInt 32 x &&& BitVec.ofInt 32 1).toNat : Int) = 1
    rw [BitVec.toNat_and, BitVec.toNat_ofInt, BitVec.toNat_ofInt]
    have a1 : (x % ((2 ^ 32 : Nat) : Int)).toNat = x.toNat := by rw [Int.emod_eq_of_lt h.1 (by simpa using h.2)]
    have a2 : ((1 : Int) % ((2 ^ 32 : Nat) : Int)).toNat = 1 := by decide
    rw [a1, a2, Nat.and_one_is_mod]
    omega
  rw [h3] at h2
  have h4 : IntKind.wrap .u32 1 = 1 := by decide
  rw [h4] at h2
  cases h2
  rw [binA_eql] at t3
  have : (AV.bool true) = .bool (sb x 0) := by simpa using t3
  injection this with h; exact h.symm
theorem tab_even : ∀ q : Nat, q < 10 → eqA (diffs (tabV q) (tabL q)) (tabV q - 1) 1 = true
  | 0, _ => by decide +kernel | 1, _ => by decide +kernel | 2, _ => by decide +kernel | 3, _ => by decide +kernel | 4, _ => by decide +kernel
  | 5, _ => by decide +kernel | 6, _ => by decide +kernel | 7, _ => by decide +kernel | 8, _ => by decide +kernel | 9, _ => by decide +kernel
  | _ + 10, h => absurd h (by omega)

def sqF (a : Int) (k r : Nat) : Bool := (List.range' r k).any fun r : Nat => decide ((r : Int) * r = a)
theorem sqF_succ (a : Int) (k r : Nat) : sqF a (k + 1) r = (decide ((r : Int) * r = a) || sqF a k (r + 1)) := by simp [sqF, List.range'_succ]
theorem cnt_loop {w : AV} {v : Nat} {len lam : Int} (hv : 2 ≤ v ∧ v ≤ 31) (hw : lenSl w = some (.int .i64 len)) (hl : 0 ≤ len ∧ len ≤ 31) (hm : 0 ≤ lam ∧ lam ≤ 1000) : ∀ (k r : Nat) (b : Bool) (m : Mem), r + k = v + 1 →
    l04_StrapCounts.L2 (.int .i64 v) w (.int .i64 lam) (.bool b) (.int .i64 r) m [.code l04_StrapCounts.r21, .code .ret] = some (.bool (decide (v % 2 = 1) || (b || sqF (len - lam) k r)), Mem.empty) := by
  intro k
  induction k with
  | zero =>
    intro r b m h1
    have e : ¬ (r : Int) ≤ v := by omega
    have e' : ¬ r ≤ v := by omega
    have em : (v : Int).tmod 2 = ((v % 2 : Nat) : Int) := by rw [Int.tmod_eq_emod_of_nonneg (by omega)]; omega
    rw [l04_StrapCounts.L2_eq]
    by_cases q : v % 2 = 1
    · have q' : (v : Int) % 2 = 1 := by omega
      simp [e, e', em, sqF, q, q']
      done
    · have q' : ¬ ((v : Int) % 2 = 1) := by omega
      simp [e, e', em, sqF, q, q']
      done
  | succ k ih =>
    intro r b m h1
    have e : (r : Int) ≤ v := by omega
    have e' : r ≤ v := by omega
    have hwr : IntKind.wrap .i64 ((r : Int) + 1) = (r : Int) + 1 := wrap_id (by omega) (by omega)
    have p0 : 0 ≤ (r : Int) * r := Int.mul_nonneg (by omega) (by omega)
    have p1 : (r : Int) * r ≤ 31 * 31 := Int.mul_le_mul (by omega) (by omega) (by omega) (by omega)
    have hwp : IntKind.wrap .i64 ((r : Int) * r) = (r : Int) * r := wrap_id (by omega) (by omega)
    have hws : IntKind.wrap .i64 (len - lam) = len - lam := wrap_id (by omega) (by omega)
    rw [sqF_succ, l04_StrapCounts.L2_eq]
    cases b with
    | true =>
      have st := ih (r + 1) true m (by omega)
      simp only [Int.natCast_add, Int.cast_ofNat_Int] at st
      simp [e, e', hwr, st]
      done
    | false =>
      have st := ih (r + 1) (decide ((r : Int) * r = len - lam)) m (by omega)
      simp only [Int.natCast_add, Int.cast_ofNat_Int] at st
      simp [e, e', hw, hwp, hws, hwr, st]
      done
theorem sq_found {v : Nat} {a c : Int} (hc : -(v : Int) ≤ c ∧ c ≤ v) (h : c * c = a) : sqF a (v + 1) 0 = true := by
  unfold sqF
  rw [List.any_eq_true]
  refine ⟨c.natAbs, by simp [List.mem_range'_1]; omega, ?_⟩
  rw [decide_eq_true_eq, ← h, ← Int.natCast_mul]
  exact Int.natAbs_mul_self
theorem cnt_bits {v : Nat} {x : Int} (h31 : v ≤ 31) (K : List Item) : ∀ (k i oid : Nat) (acc : List Int) (m : Mem), i + k = v → acc.length ≤ i → OutI m oid acc →
    ∃ oid' m', OutI m' oid' (acc ++ setF x k i) ∧ l04_StrapCounts.L0 (.int .u32 x) (.int .i64 v) (outI oid acc) (.int .i64 i) m K =
      l04_StrapCounts.L0 (.int .u32 x) (.int .i64 v) (outI oid' (acc ++ setF x k i)) (.int .i64 v) m' K := by
  intro k
  induction k with
  | zero =>
    intro i oid acc m h1 ha hm
    have e : i = v := by omega
    subst e
    exact ⟨oid, m, by simpa [setF] using hm, by simp [setF]⟩
  | succ k ih =>
    intro i oid acc m h1 ha hm
    have hi : i < v := by omega
    have hw : IntKind.wrap .i64 ((i : Int) + 1) = (i : Int) + 1 := wrap_id (by omega) (by omega)
    obtain ⟨y, z, t1, t2, t3⟩ := sb_spec x i
    rw [setF_succ]
    cases q : sb x i with
    | true =>
      rw [q] at t3
      obtain ⟨oid1, m1, e1, e2, _⟩ := outI_appT hm (by omega) (i : Int)
      obtain ⟨oid', m', g1, g2⟩ := ih (i + 1) oid1 (acc ++ [(i : Int)]) m1 (by omega) (by simp; omega) e2
      simp only [Int.natCast_add, Int.cast_ofNat_Int, List.append_assoc, List.singleton_append] at g1 g2
      refine ⟨oid', m', by simpa using g1, ?_⟩
      rw [if_pos rfl, ← g2, l04_StrapCounts.L0_eq]
      simp [-binA_shr, -binA_and, t1, t2, t3, hi, hw, e1]
      done
    | false =>
      rw [q] at t3
      obtain ⟨oid', m', g1, g2⟩ := ih (i + 1) oid acc m (by omega) (by omega) hm
      simp only [Int.natCast_add, Int.cast_ofNat_Int] at g2
      refine ⟨oid', m', by simpa using g1, ?_⟩
      rw [if_neg (by decide), ← g2, l04_StrapCounts.L0_eq]
      simp [-binA_shr, -binA_and, t1, t2, t3, hi, hw]
      done
theorem lam_rng {v : Nat} {l : List Int} (r : RingOk v l) (he : eqA (diffs v l) (v - 1) 1 = true) : 0 ≤ nth (diffs v l) 1 ∧ nth (diffs v l) 1 ≤ 1000 := by
  have h := even_count r he
  have hv := r.v2
  have hf := r.few
  have hp := r.pos
  have p0 : 0 ≤ (l.length : Int) * ((l.length : Int) - 1) := Int.mul_nonneg (by omega) (by omega)
  have p1 : (l.length : Int) * ((l.length : Int) - 1) ≤ 31 * 30 := Int.mul_le_mul (by omega) (by omega) (by omega) (by omega)
  rw [h] at p0 p1
  generalize nth (diffs v l) 1 = x at *
  constructor
  · rcases Int.lt_or_le x 0 with q | q
    · have : x * ((v : Int) - 1) < 0 := Int.mul_neg_of_neg_of_pos q (by omega)
      omega
    · exact q
  · rcases Int.lt_or_le 1000 x with q | q
    · have : (1001 : Int) * 1 ≤ x * ((v : Int) - 1) := Int.mul_le_mul (by omega) (by omega) (by omega) (by omega)
      omega
    · exact q
theorem cnt_runs {d : Nat} (a0 a1 a2 : AV) (h0 : DatV prog (d + 4) 23 a0) (h1 : DatV prog (d + 4) 22 a1) (h2 : DatV prog (d + 4) 22 a2) : ∃ m', denC prog ann 4 [a0, a1, a2] Mem.empty = some (.bool true, m') := by
  obtain ⟨a, b, c, rfl, ha, hb, hc⟩ := datV23 h0
  obtain ⟨v0, rfl, hv0, hv1⟩ := datU32 h1
  obtain ⟨x, rfl, hx0, hx1⟩ := datU32 h2
  have hcl : closedL [.agg [.int .u8 a, .int .u8 b, .int .u8 c], .int .u32 v0, .int .u32 x] = true := by simp
  obtain ⟨q, hq, o, ho, hmd⟩ := made_spec ha hb hc
  have so := ho.ring (tab_ring hq)
  have hte := even_orb (tab_ring hq) ho (tab_even q hq)
  obtain ⟨t1, t2, _⟩ := tab_rng q hq
  have hxm : x.tmod 2 = x % 2 := Int.tmod_eq_emod_of_nonneg hx0
  refine ⟨Mem.empty, ?_⟩
  rw [l04_StrapCounts.call_eq _ _ _ _ hcl]
  rcases Int.emod_two_eq x with ex | ex
  · -- a set of the table
    generalize tabV q = v at *
    have he := hte.1
    have iv : IsInts (.fsl false o.length (ints o)) o := .inr ⟨false, rfl⟩
    have hev := fun m => even_spec iv so (ring_err iv so) m
    rw [if_pos he] at hev
    have hct := even_count so he
    have hlr := lam_rng so he
    have hsq := fun h => even_square so h he
    have hcb := chi_bound o
    have hle := ring_le so
    have hf := so.few
    have hp := so.pos
    have hv2 := so.v2
    have hv31 := so.v31
    generalize nth (diffs (v : Int) o) 1 = lam at *
    have p0 : 0 ≤ (o.length : Int) * ((o.length : Int) - 1) := Int.mul_nonneg (by omega) (by omega)
    have p1 : (o.length : Int) * ((o.length : Int) - 1) ≤ 31 * 30 := Int.mul_le_mul (by omega) (by omega) (by omega) (by omega)
    have hw1 : IntKind.wrap .i64 ((o.length : Int) - 1) = (o.length : Int) - 1 := wrap_id (by omega) (by omega)
    have hw2 : IntKind.wrap .i64 ((v : Int) - 1) = (v : Int) - 1 := wrap_id (by omega) (by omega)
    have hw3 : IntKind.wrap .i64 ((o.length : Int) * ((o.length : Int) - 1)) = (o.length : Int) * ((o.length : Int) - 1) := wrap_id (by omega) (by omega)
    have hw4 : IntKind.wrap .i64 (lam * ((v : Int) - 1)) = (o.length : Int) * ((o.length : Int) - 1) := by rw [← hct]; exact hw3
    have lp := cnt_loop (w := .fsl false o.length (ints o)) (v := v) (len := o.length) (lam := lam) (by omega) (by simp) (by omega) (by omega) (v + 1) 0 false
    simp only [Int.ofNat_zero, Int.cast_ofNat_Int] at lp
    have hfin : (decide (v % 2 = 1) || (false || sqF (o.length - lam) (v + 1) 0)) = true := by
      by_cases qv : v % 2 = 1
      · simp [qv]
      · have : sqF (o.length - lam) (v + 1) 0 = true := sq_found (c := S1 o chi) (by omega) (hsq (by omega))
        simp [this]
    rw [hfin] at lp
    simp [hmd, hxm, ex, hev, lives_spec, hw1, hw2, hw3, hw4, hct]
    rw [lp _ (by omega)]; rfl
  · -- any round strap
    clear hte
    have hw0 : IntKind.wrap .i64 v0 = v0 := wrap_id (by omega) (by omega)
    have he0 : v0.tmod 30 = v0 % 30 := Int.tmod_eq_emod_of_nonneg hv0
    obtain ⟨v, hv⟩ : ∃ v : Nat, v0 % 30 + 2 = v := ⟨(v0 % 30 + 2).toNat, by omega⟩
    have hvb : 2 ≤ v ∧ v ≤ 31 := by omega
    have hwv2 : IntKind.wrap .i64 (v : Int) = v := wrap_id (by omega) (by omega)
    have hne : setF x v 0 ≠ [] := by
      obtain ⟨k, rfl⟩ : ∃ k, v = k + 1 := ⟨v - 1, by omega⟩
      rw [setF_succ, if_pos (odd_bit ⟨hx0, hx1⟩ ex)]
      simp
    have so := ring_set1 hvb.1 hvb.2 hne
    obtain ⟨oid, m', g1, g2⟩ := cnt_bits (x := x) hvb.2 (.code l04_StrapCounts.r9 :: .code l04_StrapCounts.r10 :: .code l04_StrapCounts.i3 :: .code l04_StrapCounts.r12 :: .code l04_StrapCounts.i4 :: .code l04_StrapCounts.r14 :: .code l04_StrapCounts.i5 :: .code l04_StrapCounts.r16 :: .code l04_StrapCounts.r17 :: .code l04_StrapCounts.k2 :: [.code l04_StrapCounts.r21, .code .ret]) v 0 0 [] Mem.empty (by omega) (by simp) (fun h => absurd rfl h)
    simp only [List.nil_append, List.length_nil, Int.ofNat_zero, Int.cast_ofNat_Int] at g1 g2
    obtain ⟨g1, _⟩ := g1 hne
    rw [show outI 0 [] = .nils from rfl, show outI oid (setF x v 0) = .sl oid 1 0 (setF x v 0).length (setF x v 0).length from if_neg hne] at g2
    have hf := so.few
    have hp := so.pos
    have hle := ring_le so
    have hcb := chi_bound (setF x v 0)
    have ht := fun he => (⟨even_count so he, lam_rng so he, fun h => even_square so h he⟩ : _ ∧ _ ∧ _)
    generalize setF x v 0 = o at *
    have iv : IsInts (.fsl false o.length (ints o)) o := .inr ⟨false, rfl⟩
    have hev := fun m => even_spec iv so (ring_err iv so) m
    have htk : List.take o.length (ints o) = ints o := by rw [List.take_of_length_le]; simp
    simp [hmd, hxm, ex, hw0, he0, hv, hwv2]
    rw [g2, l04_StrapCounts.L0_eq]
    by_cases he : eqA (diffs v o) (v - 1) 1 = true
    · rw [if_pos he] at hev
      obtain ⟨hct, hlr, hsq⟩ := ht he
      generalize nth (diffs (v : Int) o) 1 = lam at *
      have p0 : 0 ≤ (o.length : Int) * ((o.length : Int) - 1) := Int.mul_nonneg (by omega) (by omega)
      have p1 : (o.length : Int) * ((o.length : Int) - 1) ≤ 31 * 30 := Int.mul_le_mul (by omega) (by omega) (by omega) (by omega)
      have hw1 : IntKind.wrap .i64 ((o.length : Int) - 1) = (o.length : Int) - 1 := wrap_id (by omega) (by omega)
      have hw2 : IntKind.wrap .i64 ((v : Int) - 1) = (v : Int) - 1 := wrap_id (by omega) (by omega)
      have hw3 : IntKind.wrap .i64 ((o.length : Int) * ((o.length : Int) - 1)) = (o.length : Int) * ((o.length : Int) - 1) := wrap_id (by omega) (by omega)
      have hw4 : IntKind.wrap .i64 (lam * ((v : Int) - 1)) = (o.length : Int) * ((o.length : Int) - 1) := by rw [← hct]; exact hw3
      have lp := cnt_loop (w := .sl oid 1 0 o.length o.length) (v := v) (len := o.length) (lam := lam) (by omega) (by simp) (by omega) (by omega) (v + 1) 0 false
      simp only [Int.ofNat_zero, Int.cast_ofNat_Int] at lp
      have hfin : (decide (v % 2 = 1) || (false || sqF (o.length - lam) (v + 1) 0)) = true := by
        by_cases qv : v % 2 = 1
        · simp [qv]
        · have : sqF (o.length - lam) (v + 1) 0 = true := sq_found (c := S1 o chi) (by omega) (hsq (by omega))
          simp [this]
      rw [hfin] at lp
      simp [AV.flat, flatL, AV.flat1, g1, htk, hxm, ex, hev, lives_spec, hw1, hw2, hw3, hw4, hct]
      rw [lp _ (by omega)]; rfl
    · rw [if_neg he] at hev
      simp [AV.flat, flatL, AV.flat1, g1, htk, hxm, ex, hev, lives_spec]
      done
end Go.Proofs.YtofceaeboboflaaDoor
