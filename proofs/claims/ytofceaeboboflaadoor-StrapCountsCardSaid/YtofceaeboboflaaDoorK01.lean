/-
  STRAPS (12): round straps: the tests, how often each difference comes. Conditions: none.
-/
import Derived.Test.YtofceaeboboflaaDoorK00
import Derived.Test.YtofceaeboboflaaDoorKAmH
set_option linter.all false
namespace Go.Proofs.YtofceaeboboflaaDoor
open Go.AM
open Go.Proofs.Tryd (prog)
set_option linter.all false
set_option maxRecDepth 100000
set_option maxHeartbeats 4000000

/-- A round strap: places below v, rising. -/
structure RingOk (v : Int) (l : List Int) : Prop where
  v2 : 2 ≤ v
  v31 : v ≤ 31
  pos : 0 < l.length
  few : l.length ≤ 31
  rng : ∀ i, i < l.length → 0 ≤ nth l i ∧ nth l i < v
  asc : ∀ i, i + 1 < l.length → nth l i < nth l (i + 1)
theorem RingOk.lt {v : Int} {l : List Int} (s : RingOk v l) {i : Nat} : ∀ {j : Nat}, i < j → j < l.length → nth l i < nth l j
  | j + 1, h, hj => by
    rcases Nat.eq_or_lt_of_le (Nat.le_of_lt_succ h) with e | e
    · subst e; exact s.asc i hj
    · exact Int.lt_trans (s.lt e (by omega)) (s.asc j hj)
/-- Why places are no round strap. -/
inductive RingErr (v : Int) (l : List Int) : Int → Prop where
  | long (h : 31 < l.length) : RingErr v l 3
  | arg (h : l.length ≤ 31) (h2 : v < 2 ∨ 31 < v) : RingErr v l 1
  | form (h : l.length ≤ 31) (h2 : 2 ≤ v ∧ v ≤ 31) (h3 : ¬ RingOk v l) : RingErr v l 2
  | ok (h : RingOk v l) : RingErr v l 0
theorem RingErr.uniq {v : Int} {l : List Int} {a b : Int} (h : RingErr v l a) (k : RingErr v l b) : a = b := by
  cases h with
  | long h => cases k with
    | long _ => rfl
    | arg h2 _ => omega
    | form h2 _ _ => omega
    | ok s => have := s.few; omega
  | arg h h2 => cases k with
    | long _ => omega
    | arg _ _ => rfl
    | form _ h3 _ => omega
    | ok s => have := s.v2; have := s.v31; omega
  | form h h2 h3 => cases k with
    | long _ => omega
    | arg _ _ => omega
    | form _ _ _ => rfl
    | ok s => exact absurd s h3
  | ok s => cases k with
    | long _ => have := s.few; omega
    | arg _ _ => have := s.v2; have := s.v31; omega
    | form _ _ h => exact absurd s h
    | ok _ => rfl
def rOk (v : Int) (l : List Int) (j : Nat) : Bool := decide (0 ≤ nth l j ∧ nth l j < v) && (decide (j = 0) || decide (nth l (j - 1) < nth l j))
theorem rOk_ring {v : Int} {l : List Int} (h2 : 2 ≤ v ∧ v ≤ 31) (h : 0 < l.length ∧ l.length ≤ 31) : RingOk v l ↔ (List.range' 0 l.length).all (rOk v l) = true := by
  rw [List.all_eq_true]
  constructor
  · intro s j hj
    simp [List.mem_range'_1] at hj
    have := s.rng j hj
    simp only [rOk, Bool.and_eq_true, Bool.or_eq_true, decide_eq_true_eq]
    refine ⟨this, ?_⟩
    by_cases e : j = 0
    · exact .inl e
    · have := s.asc (j - 1) (by omega)
      rw [show j - 1 + 1 = j by omega] at this
      exact .inr this
  · intro a
    have a' : ∀ j, j < l.length → rOk v l j = true := fun j hj => a j (by simp [List.mem_range'_1]; exact hj)
    refine ⟨h2.1, h2.2, h.1, h.2, fun i hi => ?_, fun i hi => ?_⟩
    · have := a' i hi
      simp only [rOk, Bool.and_eq_true, decide_eq_true_eq] at this
      exact this.1
    · have := a' (i + 1) hi
      simp only [rOk, Bool.and_eq_true, Bool.or_eq_true, decide_eq_true_eq] at this
      rcases this.2 with e | e
      · omega
      · exact e
theorem ring_loop {w : AV} {l : List Int} (hv : IsInts w l) (hl : l.length ≤ 31) (v : Int) : ∀ (k i : Nat) (m : Mem), i + k = l.length →
    strap_ring.L1 (.int .i64 v) w w (.int .i64 l.length) (.int .i64 i) m [.code strap_ring.r13, .code .ret] = some (.int .i64 (if (List.range' i k).all (rOk v l) = true then 0 else 2), Mem.empty) := by
  intro k
  induction k with
  | zero =>
    intro i m h1
    have e : i = l.length := by omega
    rw [strap_ring.L1_eq]
    simp [e]
    done
  | succ k ih =>
    intro i m h1
    have hi : i < l.length := by omega
    have hw : IntKind.wrap .i64 ((i : Int) + 1) = (i : Int) + 1 := wrap_id (by omega) (by omega)
    have hst := fun m => ih (i + 1) m (by omega)
    simp only [Int.natCast_add, Int.cast_ofNat_Int] at hst
    have e : (List.range' i (k + 1)).all (rOk v l) = (rOk v l i && (List.range' (i + 1) k).all (rOk v l)) := by simp [List.range'_succ]
    rw [e, strap_ring.L1_eq]
    by_cases q1 : nth l i < 0
    · have ho : rOk v l i = false := by simp [rOk]; omega
      rw [ho, Bool.false_and]
      simp [hi, hv.idx hi, ints_head hi, q1]
      done
    · by_cases q2 : v ≤ nth l i
      · have ho : rOk v l i = false := by simp [rOk]; omega
        rw [ho, Bool.false_and]
        simp [hi, hv.idx hi, ints_head hi, q1, q2]
        done
      · by_cases hz : i = 0
        · subst hz
          have ho : rOk v l 0 = true := by simp [rOk]; omega
          rw [ho, Bool.true_and]
          have i0 := hv.idx hi .i64
          have i1 := ints_head hi
          simp only [Int.ofNat_zero, Int.cast_ofNat_Int, List.drop_zero, Int.zero_add, Nat.zero_add] at i0 i1 hst hw
          simp [hi, i0, i1, q1, q2, hw, hst]
          done
        · have hw1 : IntKind.wrap .i64 ((i : Int) - 1) = ((i - 1 : Nat) : Int) := by rw [wrap_id (by omega) (by omega)]; omega
          have hj : i - 1 < l.length := by omega
          have hp : 0 < i := by omega
          by_cases q3 : nth l i ≤ nth l (i - 1)
          · have ho : rOk v l i = false := by simp [rOk]; omega
            rw [ho, Bool.false_and]
            simp [hi, hv.idx hi, ints_head hi, q1, q2, hw1, hv.idx hj, ints_head hj, hp, q3]
            done
          · have ho : rOk v l i = true := by simp [rOk]; omega
            rw [ho, Bool.true_and]
            simp [hi, hv.idx hi, ints_head hi, q1, q2, hw1, hv.idx hj, ints_head hj, hp, q3, hw, hst]
            done
theorem ring_spec {w : AV} {l : List Int} (hv : IsInts w l) (hl : l.length < 1000000) (v : Int) : ∃ e, RingErr v l e ∧ ∀ m, denC prog ann 14 [.int .i64 v, w] m = some (.int .i64 e, m) := by
  have hcl : closedL [.int .i64 v, w] = true := by simp [hv.closed]
  by_cases q1 : (31 : Int) < l.length
  · refine ⟨3, .long (by omega), fun m => ?_⟩
    rw [strap_ring.call_eq _ _ _ hcl]
    simp [hv.len, q1]
    done
  · by_cases q2 : v < 2
    · refine ⟨1, .arg (by omega) (.inl q2), fun m => ?_⟩
      rw [strap_ring.call_eq _ _ _ hcl]
      simp [hv.len, q1, q2]
      done
    · by_cases q3 : 31 < v
      · refine ⟨1, .arg (by omega) (.inr q3), fun m => ?_⟩
        rw [strap_ring.call_eq _ _ _ hcl]
        simp [hv.len, q1, q2, q3]
        done
      · by_cases q4 : l.length = 0
        · refine ⟨2, .form (by omega) (by omega) (fun s => by have := s.pos; omega), fun m => ?_⟩
          rw [strap_ring.call_eq _ _ _ hcl]
          simp [hv.len, q1, q2, q3, q4]
          done
        · have q4' : ¬ l = [] := fun e => q4 (by rw [e]; rfl)
          have lp := fun m => ring_loop hv (by omega) v l.length 0 m (by omega)
          simp only [Int.ofNat_zero, Int.cast_ofNat_Int] at lp
          have hro := rOk_ring (v := v) (l := l) (by omega) (by omega)
          by_cases q5 : (List.range' 0 l.length).all (rOk v l) = true
          · refine ⟨0, .ok (hro.2 q5), fun m => ?_⟩
            simp only [if_pos q5] at lp
            rw [strap_ring.call_eq _ _ _ hcl]
            simp [hv.len, q1, q2, q3, q4', lp]
            done
          · refine ⟨2, .form (by omega) (by omega) (fun s => q5 (hro.1 s)), fun m => ?_⟩
            simp only [if_neg q5] at lp
            rw [strap_ring.call_eq _ _ _ hcl]
            simp [hv.len, q1, q2, q3, q4', lp]
            done
/-! ### How often each difference comes -/
def dfF (l : List Int) (v : Int) (i : Nat) (k j : Nat) (c : List Int) : List Int := (List.range' j k).foldl (fun c q => if i = q then c else bump c ((nth l i - nth l q + v).tmod v).toNat) c
def dfO (l : List Int) (v : Int) (k i : Nat) (c : List Int) : List Int := (List.range' i k).foldl (fun c i => dfF l v i l.length 0 c) c
theorem dfF_succ (l : List Int) (v : Int) (i k j : Nat) (c : List Int) : dfF l v i (k + 1) j c = dfF l v i k (j + 1) (if i = j then c else bump c ((nth l i - nth l j + v).tmod v).toNat) := by simp [dfF, List.range'_succ]
theorem dfO_succ (l : List Int) (v : Int) (k i : Nat) (c : List Int) : dfO l v (k + 1) i c = dfO l v k (i + 1) (dfF l v i l.length 0 c) := by simp [dfO, List.range'_succ]
theorem dfF_len (l : List Int) (v : Int) (i : Nat) : ∀ (k j : Nat) (c : List Int), (dfF l v i k j c).length = c.length
  | 0, _, _ => rfl
  | k + 1, j, c => by rw [dfF_succ, dfF_len]; split <;> simp [bump_len]
theorem dfO_len (l : List Int) (v : Int) : ∀ (k i : Nat) (c : List Int), (dfO l v k i c).length = c.length
  | 0, _, _ => rfl
  | k + 1, i, c => by rw [dfO_succ, dfO_len, dfF_len]
theorem Small.dfF {l : List Int} {v : Int} {i : Nat} : ∀ {k j : Nat} {c : List Int} {B : Int}, Small c B → 0 ≤ B → Small (Go.Proofs.YtofceaeboboflaaDoor.dfF l v i k j c) (B + k)
  | 0, _, _, _, h, _ => by simpa [Go.Proofs.YtofceaeboboflaaDoor.dfF] using h
  | k + 1, j, c, B, h, hB => by
    rw [dfF_succ]
    have h1 : Small (if i = j then c else Go.AM.bump c ((nth l i - nth l j + v).tmod v).toNat) (B + 1) := by
      split
      · intro g; have := h g; omega
      · exact h.bump hB _
    have := h1.dfF (l := l) (v := v) (i := i) (k := k) (j := j + 1) (by omega)
    rwa [show B + 1 + (k : Int) = B + ((k + 1 : Nat) : Int) by omega] at this
def diffs (v : Int) (l : List Int) : List Int := dfO l v l.length 0 (List.replicate v.toNat 0)
theorem RingOk.ne {v : Int} {l : List Int} (s : RingOk v l) {i j : Nat} (hi : i < l.length) (hj : j < l.length) : nth l i = nth l j ↔ i = j := by
  constructor
  · intro h
    rcases Nat.lt_trichotomy i j with q | q | q
    · have := s.lt q hj; omega
    · exact q
    · have := s.lt q hi; omega
  · intro h; rw [h]
end Go.Proofs.YtofceaeboboflaaDoor

/-
  STRAPS (20): a set multiplied and moved, sorted by the library. Conditions: none.
-/
namespace Go.Proofs.YtofceaeboboflaaDoor
open Go.AM
open Go.Proofs.Tryd (prog)
set_option linter.all false
set_option maxRecDepth 100000
set_option maxHeartbeats 4000000

def mvF (v t s x : Int) : Int := (x * t + s).tmod v
def fillF (l : List Int) (f : Int → Int) (k i : Nat) (c : List Int) : List Int := (List.range' i k).foldl (fun c i => c.set i (f (nth l i))) c
def mvL (v t s : Int) (l : List Int) : List Int := sortI (l.map (mvF v t s))
end Go.Proofs.YtofceaeboboflaaDoor

/-
  STRAPS (21): common divisors, units, the same list (slices.Equal). Conditions: none.
-/
namespace Go.Proofs.YtofceaeboboflaaDoor
open Go.AM
open Go.Proofs.Tryd (prog)
set_option linter.all false
set_option maxRecDepth 100000
set_option maxHeartbeats 4000000

theorem gcd_step (a b : Nat) : Nat.gcd a (b + 1) = Nat.gcd (b + 1) (a % (b + 1)) := by
  rw [Nat.gcd_comm a, Nat.gcd_rec (b + 1) a, Nat.gcd_comm]
theorem gcd_loop : ∀ (n a b : Nat) (m : Mem), b ≤ n → r04_Gcd.L0 (.int .i64 a) (.int .i64 b) m [.code r04_Gcd.r3, .code .ret] = some (.int .i64 (Nat.gcd a b), Mem.empty)
  | n, a, 0, m, _ => by
    rw [r04_Gcd.L0_eq]
    simp
    done
  | 0, a, b + 1, m, h => by omega
  | n + 1, a, b + 1, m, h => by
    have hlt := Nat.mod_lt a (show 0 < b + 1 by omega)
    have ih := gcd_loop n (b + 1) (a % (b + 1)) ⟨m.h, m.nx + 6⟩ (by omega)
    have e : (a : Int).tmod ((b + 1 : Nat) : Int) = ((a % (b + 1) : Nat) : Int) := by rw [Int.tmod_eq_emod_of_nonneg (by omega)]; rfl
    have hb : ¬ ((b + 1 : Nat) : Int) = 0 := by omega
    have hb2 : (0 : Int) < ((b + 1 : Nat) : Int) := by omega
    rw [gcd_step, ← ih]
    generalize ((b + 1 : Nat) : Int) = B at *
    rw [r04_Gcd.L0_eq]
    simp [hb, hb2, e]
    done
theorem gcd_spec (a b : Nat) (m : Mem) : denC prog ann 12 [.int .i64 a, .int .i64 b] m = some (.int .i64 (Nat.gcd a b), m) := by
  have lp := gcd_loop b a b Mem.empty (Nat.le_refl _)
  rw [r04_Gcd.call_eq _ _ _ rfl]
  simp [lp]
  done
/-! ### The units -/
def uniF (v k i : Nat) : List Int := ((List.range' i k).filter fun t => decide (Nat.gcd t v = 1)).map fun t : Nat => (t : Int)
def unitsL (v : Nat) : List Int := uniF v v 0
end Go.Proofs.YtofceaeboboflaaDoor

/-
  STRAPS (22): the specification's multiplied and moved set. Conditions: none.
-/
namespace Go.Proofs.YtofceaeboboflaaDoor
open Go.AM
open Go.Proofs.Tryd (prog)
set_option linter.all false
set_option maxRecDepth 100000
set_option maxHeartbeats 4000000

def bls (bs : List Bool) : List AV := bs.map fun b => AV.bool b
def bnth (bs : List Bool) (i : Nat) : Bool := bs.getD i false
def turF (bs : List Bool) (k p : Nat) : List Int := ((List.range' p k).filter (bnth bs)).map fun t : Nat => (t : Int)
theorem turF_succ (bs : List Bool) (k p : Nat) : turF bs (k + 1) p = if bnth bs p = true then (p : Int) :: turF bs k (p + 1) else turF bs k (p + 1) := by
  simp only [turF, List.range'_succ, List.filter_cons]
  by_cases h : bnth bs p = true <;> simp [h]
theorem tur_out {v : Nat} (hv : v ≤ 31) {bs : List Bool} (hb : bs.length = v) (i1 i2 : Nat) (hne : i1 ≠ i2) : ∀ (k p : Nat) (acc : List Int) (m : Mem), p + k = v → acc.length ≤ p → m.h i1 = some (.cells (bls bs)) → m.h i2 = some (.cells (ints acc)) →
    r04_Turned.L2 (.int .i64 v) (.sl i1 1 0 v v) (.sl i2 1 0 acc.length acc.length) (.int .i64 p) m [.code r04_Turned.r11, .code .ret] = some (.fsl false (acc ++ turF bs k p).length (ints (acc ++ turF bs k p)), Mem.empty) := by
  intro k
  induction k with
  | zero =>
    intro p acc m h1 ha m1 m2
    have e : p = v := by omega
    subst e
    rw [r04_Turned.L2_eq]
    simp [turF, m2]
    done
  | succ k ih =>
    intro p acc m h1 ha m1 m2
    have hp : p < v := by omega
    have hw : IntKind.wrap .i64 ((p : Int) + 1) = (p : Int) + 1 := wrap_id (by omega) (by omega)
    have hbl : (bls bs).length = v := by simp [bls, hb]
    have hbp : ∀ h, (bls bs)[p]'h = .bool (bnth bs p) := fun h => by
      have hp2 : p < bs.length := by omega
      simp [bls, bnth, hp2]
    rw [turF_succ]
    cases q : bnth bs p with
    | true =>
      rw [q] at hbp
      have hx : ints acc ++ [AV.int .i64 (p : Int)] = ints (acc ++ [(p : Int)]) := by simp [ints]
      have hst := ih (p + 1) (acc ++ [(p : Int)]) ⟨upd m.h i2 (some (.cells (ints (acc ++ [(p : Int)])))), m.nx⟩ (by omega) (by simp; omega) (by show upd m.h i2 _ i1 = _; rw [updNe hne]; exact m1) (by simp)
      simp only [Int.natCast_add, Int.cast_ofNat_Int, List.length_append, List.length_singleton, List.append_assoc, List.singleton_append] at hst
      rw [if_pos rfl, r04_Turned.L2_eq]
      simp [hp, m1, hbl, hbp, m2, hx, Mem.set, hw, show acc.length ≤ 4611686018427387903 by omega, show (acc.length + 1) * 8 ≤ 70368744177664 by omega, hst]
      done
    | false =>
      rw [q] at hbp
      have hst := ih (p + 1) acc m (by omega) (by omega) m1 m2
      simp only [Int.natCast_add, Int.cast_ofNat_Int, List.length_append] at hst
      rw [if_neg (by decide), r04_Turned.L2_eq]
      simp [hp, m1, hbl, hbp, hw, hst]
      done
def turS (l : List Int) (f : Int → Int) (k i : Nat) (bs : List Bool) : List Bool := (List.range' i k).foldl (fun bs i => bs.set (f (nth l i)).toNat true) bs
theorem turS_succ (l : List Int) (f : Int → Int) (k i : Nat) (bs : List Bool) : turS l f (k + 1) i bs = turS l f k (i + 1) (bs.set (f (nth l i)).toNat true) := by simp [turS, List.range'_succ]
theorem bls_set (bs : List Bool) (d : Nat) : (bls bs).set d (.bool true) = bls (bs.set d true) := by simp [bls, List.map_set]
theorem tur_in {w : AV} {v : Nat} {t s : Int} {l : List Int} (hv : IsInts w l) (hl : l.length ≤ 31) (hr : ∀ i, i < l.length → 0 ≤ nth l i ∧ nth l i < 31) (hv2 : 1 ≤ v ∧ v ≤ 31) (ht : 0 ≤ t ∧ t ≤ 31) (hs : 0 ≤ s ∧ s ≤ 31) (i1 i2 : Nat) (hne : i1 ≠ i2) : ∀ (k i : Nat) (bs : List Bool) (m : Mem), i + k = l.length → bs.length = v → m.h i1 = some (.cells (bls bs)) → m.h i2 = some (.cells (ints [])) →
    r04_Turned.L0 (.int .i64 v) w (.int .i64 t) (.int .i64 s) (.sl i1 1 0 v v) (.sl i2 1 0 0 0) (.int .i64 i) m [.code r04_Turned.r6, .code r04_Turned.k2, .code r04_Turned.r11, .code .ret] = some (.fsl false (turF (turS l (mvF v t s) k i bs) v 0).length (ints (turF (turS l (mvF v t s) k i bs) v 0)), Mem.empty) := by
  intro k
  induction k with
  | zero =>
    intro i bs m h1 hb m1 m2
    have e : i = l.length := by omega
    subst e
    have lp := tur_out hv2.2 hb i1 i2 hne v 0 [] m (by omega) (Nat.le_refl _) m1 m2
    simp only [Int.ofNat_zero, Int.cast_ofNat_Int, List.nil_append, List.length_nil] at lp
    rw [r04_Turned.L0_eq]
    simp [hv.len, lp, turS]
    done
  | succ k ih =>
    intro i bs m h1 hb m1 m2
    have hi : i < l.length := by omega
    have hw : IntKind.wrap .i64 ((i : Int) + 1) = (i : Int) + 1 := wrap_id (by omega) (by omega)
    have hx := hr i hi
    have p0 : 0 ≤ nth l i * t := Int.mul_nonneg (by omega) (by omega)
    have p1 : nth l i * t ≤ 31 * 31 := Int.mul_le_mul (by omega) (by omega) (by omega) (by omega)
    have hw1 : IntKind.wrap .i64 (nth l i * t) = nth l i * t := wrap_id (by omega) (by omega)
    have hw2 : IntKind.wrap .i64 (nth l i * t + s) = nth l i * t + s := wrap_id (by omega) (by omega)
    have hv0 : ¬ (v : Int) = 0 := by omega
    have hv0' : ¬ v = 0 := by omega
    have er : (nth l i * t + s).tmod v = (nth l i * t + s) % v := Int.tmod_eq_emod_of_nonneg (by omega)
    have e1 := Int.emod_nonneg (nth l i * t + s) hv0
    have e2 := Int.emod_lt_of_pos (nth l i * t + s) (show (0 : Int) < v by omega)
    obtain ⟨d, hd⟩ : ∃ d : Nat, (nth l i * t + s).tmod v = d := ⟨((nth l i * t + s) % v).toNat, by omega⟩
    have hdv : d < v := by omega
    have hmv : (mvF v t s (nth l i)).toNat = d := by unfold mvF; rw [hd]; rfl
    have hbl : (bls bs).length = v := by simp [bls, hb]
    have hst := ih (i + 1) (bs.set d true) ⟨upd m.h i1 (some (.cells (bls (bs.set d true)))), m.nx⟩ (by omega) (by simp [hb]) (by simp) (by show upd m.h i1 _ i2 = _; rw [updNe (fun h => hne h.symm)]; exact m2)
    simp only [Int.natCast_add, Int.cast_ofNat_Int] at hst
    rw [turS_succ, hmv, ← hst, r04_Turned.L0_eq]
    simp [hi, hv.len, hv.idx hi, ints_head hi, hw1, hw2, hv0, hv0', hd, hdv, m1, hbl, bls_set, Mem.set, hw]
    done
def turL (v : Nat) (t s : Int) (l : List Int) : List Int := turF (turS l (mvF v t s) l.length 0 (List.replicate v false)) v 0
theorem turned_spec {w : AV} {v : Nat} {t s : Int} {l : List Int} (hv : IsInts w l) (hl : l.length ≤ 31) (hr : ∀ i, i < l.length → 0 ≤ nth l i ∧ nth l i < 31) (hv2 : 1 ≤ v ∧ v ≤ 31) (ht : 0 ≤ t ∧ t ≤ 31) (hs : 0 ≤ s ∧ s ≤ 31) (m : Mem) :
    denC prog ann 13 [.int .i64 v, w, .int .i64 t, .int .i64 s] m = some (.fsl false (turL v t s l).length (ints (turL v t s l)), m) := by
  have hcl : closedL [.int .i64 v, w, .int .i64 t, .int .i64 s] = true := by simp [hv.closed]
  have lp := tur_in hv hl hr hv2 ht hs 0 1 (by decide) l.length 0 (List.replicate v false) ⟨upd (upd Mem.empty.h 0 (some (.cells (bls (List.replicate v false))))) 1 (some (.cells (ints []))), 2⟩ (by omega) (by simp) (by simp) (by simp)
  have e : bls (List.replicate v false) = List.replicate v (AV.bool false) := by simp [bls]
  rw [e] at lp
  simp only [Int.ofNat_zero, Int.cast_ofNat_Int] at lp
  simp at lp
  rw [r04_Turned.call_eq _ _ _ _ _ hcl]
  simp [show v ≤ 4611686018427387904 by omega, show v ≤ 70368744177664 by omega, lp, turL]
  done
end Go.Proofs.YtofceaeboboflaaDoor

/-
  STRAPS (23): moved by the code and by the specification: the same. Conditions: none.
-/
namespace Go.Proofs.YtofceaeboboflaaDoor
open Go.AM
set_option linter.all false
set_option maxRecDepth 10000
set_option maxHeartbeats 2000000

theorem mvF_rng {v : Nat} (hv : 0 < v) {t s x : Int} (h : 0 ≤ x * t + s) : 0 ≤ mvF v t s x ∧ mvF v t s x < v ∧ mvF v t s x = (x * t + s) % v := by
  have e := Int.tmod_eq_emod_of_nonneg (b := (v : Int)) h
  unfold mvF
  rw [e]
  exact ⟨Int.emod_nonneg _ (by omega), Int.emod_lt_of_pos _ (by omega), rfl⟩
theorem dvd_small {v t : Nat} (hg : Nat.gcd t v = 1) {d : Nat} (hd : d < v) (h : (v : Int) ∣ (d : Int) * t) : d = 0 := by
  have h2 : v ∣ d * t := by
    have := Int.natAbs_dvd_natAbs.2 h
    simpa [Int.natAbs_mul] using this
  have hc : Nat.Coprime v t := by rw [Nat.Coprime, Nat.gcd_comm]; exact hg
  exact Nat.eq_zero_of_dvd_of_lt (hc.dvd_of_dvd_mul_right h2) hd
theorem mvF_inj {v t : Nat} (hg : Nat.gcd t v = 1) {s x y : Int} (hs : 0 ≤ s) (hx : 0 ≤ x ∧ x < v) (hy : 0 ≤ y ∧ y < v) (h : mvF v t s x = mvF v t s y) : x = y := by
  have hv : 0 < v := by omega
  have px : 0 ≤ x * (t : Int) := Int.mul_nonneg hx.1 (by omega)
  have py : 0 ≤ y * (t : Int) := Int.mul_nonneg hy.1 (by omega)
  rw [(mvF_rng hv (by omega : 0 ≤ x * (t : Int) + s)).2.2, (mvF_rng hv (by omega : 0 ≤ y * (t : Int) + s)).2.2] at h
  have h2 : (v : Int) ∣ (x - y) * t := by
    have := Int.emod_emod_of_dvd
    have h3 := Int.emod_eq_emod_iff_emod_sub_eq_zero.1 h
    have h4 := Int.dvd_of_emod_eq_zero h3
    rwa [show x * (t : Int) + s - (y * t + s) = (x - y) * t by rw [Int.sub_mul]; omega] at h4
  rcases Int.le_total y x with q | q
  · obtain ⟨d, hd⟩ : ∃ d : Nat, x - y = d := ⟨(x - y).toNat, by omega⟩
    rw [hd] at h2
    have := dvd_small hg (by omega) h2
    omega
  · obtain ⟨d, hd⟩ : ∃ d : Nat, y - x = d := ⟨(y - x).toNat, by omega⟩
    have h3 : (v : Int) ∣ (d : Int) * t := by
      have := Int.dvd_neg.2 h2
      rwa [show -((x - y) * (t : Int)) = (d : Int) * t by rw [← Int.neg_mul, ← hd]; congr 1; omega] at this
    have := dvd_small hg (by omega) h3
    omega
theorem bnth_set {bs : List Bool} {d p : Nat} (hd : d < bs.length) : bnth (bs.set d true) p = (decide (p = d) || bnth bs p) := by
  simp only [bnth, List.getD, List.getElem?_set]
  by_cases e : d = p
  · subst e; simp [hd]
  · have e' : ¬ p = d := fun h => e h.symm
    simp [e, e']
theorem turS_nth {l : List Int} {f : Int → Int} {p : Nat} : ∀ {k i : Nat} {bs : List Bool}, (∀ j, i ≤ j → j < i + k → (f (nth l j)).toNat < bs.length) → (bnth (turS l f k i bs) p = true ↔ bnth bs p = true ∨ ∃ j, i ≤ j ∧ j < i + k ∧ (f (nth l j)).toNat = p)
  | 0, i, bs, _ => by
    constructor
    · exact .inl
    · rintro (h | ⟨j, h1, h2, _⟩)
      · exact h
      · omega
  | k + 1, i, bs, h => by
    rw [turS_succ, turS_nth (fun j h1 h2 => by rw [List.length_set]; exact h j (by omega) (by omega)), bnth_set (h i (by omega) (by omega)), Bool.or_eq_true, decide_eq_true_eq]
    constructor
    · rintro ((h | h) | ⟨j, h1, h2, h3⟩)
      · exact .inr ⟨i, by omega, by omega, h.symm⟩
      · exact .inl h
      · exact .inr ⟨j, by omega, by omega, h3⟩
    · rintro (h | ⟨j, h1, h2, h3⟩)
      · exact .inl (.inr h)
      · by_cases e : j = i
        · subst e; exact .inl (.inl h3.symm)
        · exact .inr ⟨j, by omega, by omega, h3⟩
theorem range_sorted : ∀ (k p : Nat), (List.range' p k).Pairwise (· < ·) := fun k p => List.pairwise_lt_range'
theorem turF_sorted (bs : List Bool) (k p : Nat) : (turF bs k p).Pairwise (· < ·) := by
  unfold turF
  exact ((range_sorted k p).filter _).map _ fun a b h => by show (a : Int) < b; omega
theorem mem_turL {v : Nat} {t s : Int} {l : List Int} (hv : 0 < v) (hp : ∀ i, i < l.length → 0 ≤ nth l i * t + s) (x : Int) : x ∈ turL v t s l ↔ x ∈ l.map (mvF v t s) := by
  have hr : ∀ i, i < l.length → 0 ≤ mvF v t s (nth l i) ∧ mvF v t s (nth l i) < v := fun i hi => ⟨(mvF_rng hv (hp i hi)).1, (mvF_rng hv (hp i hi)).2.1⟩
  have hk : ∀ p, bnth (turS l (mvF v t s) l.length 0 (List.replicate v false)) p = true ↔ ∃ j, j < l.length ∧ (mvF v t s (nth l j)).toNat = p := fun p => by
    rw [turS_nth (fun j _ h2 => by have := hr j (by omega); simp; omega)]
    have z : bnth (List.replicate v false) p = false := by simp only [bnth, List.getD, List.getElem?_replicate]; split <;> rfl
    rw [z]
    constructor
    · rintro (h | ⟨j, _, h2, h3⟩)
      · cases h
      · exact ⟨j, by omega, h3⟩
    · rintro ⟨j, h2, h3⟩
      exact .inr ⟨j, by omega, by omega, h3⟩
  rw [turL, turF, List.mem_map, List.mem_map]
  constructor
  · rintro ⟨p, h1, rfl⟩
    rw [List.mem_filter] at h1
    obtain ⟨j, hj, e⟩ := (hk p).1 h1.2
    have := hr j hj
    exact ⟨nth l j, nth_mem hj, by omega⟩
  · rintro ⟨y, h1, rfl⟩
    obtain ⟨j, hj, e⟩ := List.getElem_of_mem h1
    rw [nth_get hj] at e
    have := hr j hj
    rw [e] at this
    refine ⟨(mvF v t s y).toNat, ?_, by omega⟩
    rw [List.mem_filter]
    refine ⟨by simp [List.mem_range'_1]; omega, (hk _).2 ⟨j, hj, by rw [e]⟩⟩
theorem tur_mv {v : Nat} {t : Nat} {s : Int} {l : List Int} (s' : RingOk v l) (hg : Nat.gcd t v = 1) (hs : 0 ≤ s) : turL v t s l = mvL v t s l := by
  have hv := s'.v2
  have hp : ∀ i, i < l.length → 0 ≤ nth l i * (t : Int) + s := fun i hi => by
    have := Int.mul_nonneg (s'.rng i hi).1 (show (0 : Int) ≤ t by omega)
    omega
  have nd : (l.map (mvF v t s)).Nodup := by
    rw [List.nodup_iff_pairwise_ne, List.pairwise_map, List.pairwise_iff_getElem]
    intro i j hi hj hij h
    rw [nth_get hi, nth_get hj] at h
    have := mvF_inj hg hs (s'.rng i hi) (s'.rng j hj) h
    have := s'.lt hij hj
    omega
  have sl := turF_sorted (turS l (mvF v t s) l.length 0 (List.replicate v false)) v 0
  have pm : (turL v t s l).Perm (l.map (mvF v t s)) := (List.perm_ext_iff_of_nodup (lt_nodup sl) nd).2 fun x => mem_turL (by omega) hp x
  exact sorted_uniq (sl.imp fun h => by omega) (sortI_sorted _) (pm.trans (sortI_perm _).symm)
end Go.Proofs.YtofceaeboboflaaDoor

/-
  STRAPS (24): Multipliers, and the specification's. Conditions: none.
-/
namespace Go.Proofs.YtofceaeboboflaaDoor
open Go.AM
open Go.Proofs.Tryd (prog)
set_option linter.all false
set_option maxRecDepth 100000
set_option maxHeartbeats 4000000

def fndF (v : Nat) (t : Int) (l : List Int) (k b : Nat) : Bool := (List.range' b k).any fun b : Nat => decide (mvL v t (b : Int) l = l)
theorem mvL_len (v t s : Int) (l : List Int) : (mvL v t s l).length = l.length := by rw [mvL, sortI_len, List.length_map]
theorem RingOk.rng31 {v : Int} {l : List Int} (s : RingOk v l) : ∀ i, i < l.length → 0 ≤ nth l i ∧ nth l i < 31 := fun i hi => by
  have := s.rng i hi; have := s.v31; omega
def multsL (v : Nat) (l : List Int) : List Int := (unitsL v).filter fun t => fndF v t l v 0
end Go.Proofs.YtofceaeboboflaaDoor

/-
  STRAPS (25): the specification's Multipliers. Conditions: none.
-/
namespace Go.Proofs.YtofceaeboboflaaDoor
open Go.AM
open Go.Proofs.Tryd (prog)
set_option linter.all false
set_option maxRecDepth 100000
set_option maxHeartbeats 4000000

def rmL (v : Nat) (l : List Int) (k t : Nat) : List Int := (uniF v k t).filter fun t => fndF v t l v 0
end Go.Proofs.YtofceaeboboflaaDoor

/-
  STRAPS (26): slices.Compare. Conditions: none.
-/
namespace Go.Proofs.YtofceaeboboflaaDoor
open Go.AM
open Go.Proofs.Tryd (prog)
set_option linter.all false
set_option maxRecDepth 100000
set_option maxHeartbeats 4000000

def cmpI (x y : Int) : Int := if x < y then -1 else if y < x then 1 else 0
def cmpV (a b : List Int) : Int := if lexLt a b = true then -1 else if a = b then 0 else 1
end Go.Proofs.YtofceaeboboflaaDoor

/-
  STRAPS (27): the least set that a set becomes. Conditions: none.
-/
namespace Go.Proofs.YtofceaeboboflaaDoor
open Go.AM
open Go.Proofs.Tryd (prog)
set_option linter.all false
set_option maxRecDepth 100000
set_option maxHeartbeats 4000000

def cStep (v : Nat) (t : Int) (l best : List Int) (s : Nat) : List Int := if lexLt (mvL v t (s : Int) l) best = true then mvL v t (s : Int) l else best
def cF (v : Nat) (t : Int) (l : List Int) (k s : Nat) (best : List Int) : List Int := (List.range' s k).foldl (cStep v t l) best
def cT (v : Nat) (l : List Int) (T : List Int) (best : List Int) : List Int := T.foldl (fun b t => cF v t l v 0 b) best
def canonL (v : Nat) (l : List Int) : List Int := cT v l (unitsL v) l
end Go.Proofs.YtofceaeboboflaaDoor

/-
  STRAPS (29): what a set becomes, multiplied and moved, is an orbit; its least set does not hang on which one of them it is asked for. Conditions: none.
-/
namespace Go.Proofs.YtofceaeboboflaaDoor
open Go.AM
set_option linter.all false
set_option maxRecDepth 100000
set_option maxHeartbeats 4000000

theorem RingOk.mem {v : Int} {l : List Int} (s : RingOk v l) {x : Int} (h : x ∈ l) : 0 ≤ x ∧ x < v := by
  obtain ⟨i, hi, rfl⟩ := List.getElem_of_mem h
  have := s.rng i hi
  simpa [nth, List.getD, hi] using this
theorem RingOk.pw {v : Int} {l : List Int} (s : RingOk v l) : l.Pairwise (· < ·) := by
  rw [List.pairwise_iff_getElem]
  intro i j hi hj hij
  have := s.lt hij hj
  simpa [nth, List.getD, hi, hj] using this
theorem ring_of {v : Int} {l : List Int} (h2 : 2 ≤ v) (h31 : v ≤ 31) (hp : 0 < l.length) (hf : l.length ≤ 31) (hm : ∀ x ∈ l, 0 ≤ x ∧ x < v) (hs : l.Pairwise (· < ·)) : RingOk v l := by
  refine ⟨h2, h31, hp, hf, fun i hi => ?_, fun i hi => ?_⟩
  · have : nth l i = l[i] := by simp [nth, List.getD, hi]
    rw [this]; exact hm _ (List.getElem_mem hi)
  · have h1 := List.pairwise_iff_getElem.1 hs i (i + 1) (by omega) hi (by omega)
    have : i < l.length := by omega
    simpa [nth, List.getD, hi, this] using h1
theorem sort_lt {l : List Int} (h : l.Nodup) : (sortI l).Pairwise (· < ·) := by
  have h1 := sortI_sorted l
  have h2 : (sortI l).Nodup := (sortI_perm l).nodup_iff.2 h
  have h3 := h1.and h2
  exact h3.imp fun ⟨a, b⟩ => by omega
theorem mem_mvL {v t s x : Int} {l : List Int} : x ∈ mvL v t s l ↔ ∃ y ∈ l, mvF v t s y = x := by
  rw [mvL, (sortI_perm _).mem_iff, List.mem_map]
theorem mv_pos {v : Nat} {t : Nat} {s x : Int} (hs : 0 ≤ s) (hx : 0 ≤ x) : 0 ≤ x * (t : Int) + s := by
  have := Int.mul_nonneg hx (by omega : 0 ≤ (t : Int)); omega
theorem ring_mv {v t : Nat} {s : Int} {l : List Int} (r : RingOk v l) (hg : Nat.gcd t v = 1) (hs : 0 ≤ s) : RingOk v (mvL v t s l) := by
  have hv := r.v2
  have h31 := r.v31
  have hp := r.pos
  have hf := r.few
  refine ring_of hv h31 (by rw [mvL_len]; omega) (by rw [mvL_len]; omega) (fun x hx => ?_) (sort_lt ?_)
  · obtain ⟨y, hy, rfl⟩ := mem_mvL.1 hx
    have := r.mem hy
    have := mvF_rng (v := v) (by omega) (mv_pos (v := v) (t := t) hs this.1)
    exact ⟨this.1, this.2.1⟩
  · rw [List.nodup_iff_pairwise_ne, List.pairwise_map]
    refine r.pw.imp_of_mem fun {a b} ha hb hab e => ?_
    have := mvF_inj hg hs (r.mem ha) (r.mem hb) e
    omega
theorem ring_eq {v : Int} {a b : List Int} (ra : RingOk v a) (rb : RingOk v b) (h : ∀ x, x ∈ a ↔ x ∈ b) : a = b := by
  have na : a.Nodup := ra.pw.imp fun h e => by omega
  have nb : b.Nodup := rb.pw.imp fun h e => by omega
  exact sorted_uniq (ra.pw.imp fun h => by omega) (rb.pw.imp fun h => by omega) ((List.perm_ext_iff_of_nodup na nb).2 h)
theorem mvF_comp {v t t' : Nat} {s s' x : Int} (hv : 0 < v) (hs : 0 ≤ s) (hs' : 0 ≤ s') (hx : 0 ≤ x) : mvF v t' s' (mvF v t s x) = mvF v ((t * t' % v : Nat) : Int) ((s * t' + s') % v) x := by
  have p1 := mvF_rng (v := v) hv (mv_pos (v := v) (t := t) hs hx)
  have p2 := mvF_rng (v := v) hv (mv_pos (v := v) (t := t') hs' p1.1)
  have p4 : 0 ≤ (s * (t' : Int) + s') % v := Int.emod_nonneg _ (by omega)
  have p3 := mvF_rng (v := v) hv (mv_pos (v := v) (t := t * t' % v) p4 hx)
  rw [p2.2.2, p3.2.2, p1.2.2]
  rw [Int.natCast_emod, Int.natCast_mul]
  rw [Int.add_emod (((x * t + s) % v) * (t' : Int)) s', Int.mul_emod ((x * (t : Int) + s) % v) t', Int.emod_emod, ← Int.mul_emod, ← Int.add_emod]
  rw [Int.add_emod (x * ((t : Int) * t' % v)) ((s * (t' : Int) + s') % v), Int.emod_emod, Int.mul_emod x ((t : Int) * t' % v), Int.emod_emod, ← Int.mul_emod, ← Int.add_emod]
  congr 1
  rw [Int.add_mul, Int.mul_assoc, Int.add_assoc]
theorem gcd_mulmod {v t t' : Nat} (h : Nat.gcd t v = 1) (h' : Nat.gcd t' v = 1) : Nat.gcd (t * t' % v) v = 1 := by
  rw [← Nat.gcd_rec, Nat.gcd_comm]
  exact Nat.Coprime.mul_left h h'
theorem mvL_comp {v t t' : Nat} {s s' : Int} {l : List Int} (r : RingOk v l) (hg : Nat.gcd t v = 1) (hg' : Nat.gcd t' v = 1) (hs : 0 ≤ s) (hs' : 0 ≤ s') : mvL v t' s' (mvL v t s l) = mvL v ((t * t' % v : Nat) : Int) ((s * t' + s') % v) l := by
  have hv : 0 < v := by have := r.v2; omega
  have p4 : 0 ≤ (s * (t' : Int) + s') % v := Int.emod_nonneg _ (by omega)
  refine ring_eq (v := v) (ring_mv (ring_mv r hg hs) hg' hs') (ring_mv r (gcd_mulmod hg hg') p4) fun x => ?_
  rw [mem_mvL, mem_mvL]
  constructor
  · rintro ⟨y, hy, rfl⟩
    obtain ⟨z, hz, rfl⟩ := mem_mvL.1 hy
    exact ⟨z, hz, (mvF_comp hv hs hs' (r.mem hz).1).symm⟩
  · rintro ⟨z, hz, rfl⟩
    exact ⟨_, mem_mvL.2 ⟨z, hz, rfl⟩, mvF_comp hv hs hs' (r.mem hz).1⟩
theorem mvL_one {v : Nat} {l : List Int} (r : RingOk v l) : mvL v 1 0 l = l := by
  have hv : 0 < v := by have := r.v2; omega
  have key : ∀ y ∈ l, mvF v ((1 : Nat) : Int) 0 y = y := fun y hy => by
    have m := r.mem hy
    rw [(mvF_rng (v := v) hv (mv_pos (v := v) (t := 1) (Int.le_refl 0) m.1)).2.2]
    rw [show y * ((1 : Nat) : Int) + 0 = y by omega]
    exact Int.emod_eq_of_lt m.1 m.2
  refine ring_eq (v := v) (ring_mv (t := 1) r (by simp) (Int.le_refl 0)) r fun x => ?_
  rw [mem_mvL]
  constructor
  · rintro ⟨y, hy, rfl⟩
    have e : mvF v 1 0 y = y := key y hy
    rw [e]; exact hy
  · intro h
    exact ⟨x, h, key x h⟩
def invB (v t : Nat) : Bool := !(decide (Nat.gcd t v = 1)) || (List.range v).any fun u => decide (Nat.gcd u v = 1) && decide (t * u % v = 1)
theorem inv_all : ((List.range 32).all fun v => decide (v < 2) || (List.range v).all fun t => invB v t) = true := by decide +kernel
theorem inv_ex {v t : Nat} (h2 : 2 ≤ v) (h31 : v ≤ 31) (ht : t < v) (hg : Nat.gcd t v = 1) : ∃ u, u < v ∧ Nat.gcd u v = 1 ∧ t * u % v = 1 := by
  have h := List.all_eq_true.1 inv_all v (List.mem_range.2 (by omega))
  rw [Bool.or_eq_true] at h
  rcases h with h' | h'
  · simp at h'; omega
  · have h3 := List.all_eq_true.1 h' t (List.mem_range.2 ht)
    unfold invB at h3
    simp only [hg, decide_true, Bool.not_true, Bool.false_or, List.any_eq_true, List.mem_range, Bool.and_eq_true, decide_eq_true_eq] at h3
    exact h3
/-- What it may become. -/
def Orb (v : Nat) (l o : List Int) : Prop := ∃ t : Nat, ∃ s : Int, t < v ∧ Nat.gcd t v = 1 ∧ 0 ≤ s ∧ s < v ∧ o = mvL v t s l
theorem Orb.ring {v : Nat} {l o : List Int} (r : RingOk v l) (h : Orb v l o) : RingOk v o := by
  obtain ⟨t, s, h1, h2, h3, h4, rfl⟩ := h
  exact ring_mv r h2 h3
theorem Orb.trans {v : Nat} {l o p : List Int} (r : RingOk v l) (h : Orb v l o) (k : Orb v o p) : Orb v l p := by
  obtain ⟨t, s, h1, h2, h3, h4, rfl⟩ := h
  obtain ⟨t', s', k1, k2, k3, k4, rfl⟩ := k
  have hv : 0 < v := by omega
  exact ⟨t * t' % v, (s * t' + s') % v, Nat.mod_lt _ hv, gcd_mulmod h2 k2, Int.emod_nonneg _ (by omega), Int.emod_lt_of_pos _ (by omega), mvL_comp r h2 k2 h3 k3⟩
theorem Orb.symm {v : Nat} {l o : List Int} (r : RingOk v l) (h : Orb v l o) : Orb v o l := by
  obtain ⟨t, s, h1, h2, h3, h4, rfl⟩ := h
  have hv2 := r.v2
  have hv31 := r.v31
  obtain ⟨u, u1, u2, u3⟩ := inv_ex (by omega) (by omega) h1 h2
  have p : 0 ≤ (-(s * u)) % (v : Int) := Int.emod_nonneg _ (by omega)
  refine ⟨u, (-(s * u)) % v, u1, u2, p, Int.emod_lt_of_pos _ (by omega), ?_⟩
  rw [mvL_comp r h2 u2 h3 p, u3]
  have e : (s * (u : Int) + -(s * u) % v) % v = 0 := by
    rw [Int.add_emod, Int.emod_emod, ← Int.add_emod]
    rw [show s * (u : Int) + -(s * u) = 0 by omega]; rfl
  rw [e]
  exact (mvL_one r).symm
end Go.Proofs.YtofceaeboboflaaDoor

/-
  STRAPS (30): a set that is read off the bits of a number. Conditions: none.
-/
namespace Go.Proofs.YtofceaeboboflaaDoor
open Go.AM
open Go.Proofs.Tryd (prog)
set_option linter.all false
set_option maxRecDepth 100000
set_option maxHeartbeats 4000000

theorem u50 : prog.underlying 22 = some (.int .u32) := by kernel_rfl
theorem bit_ex (x : Int) (d : Nat) : ∃ (b : Bool), ∃ (y z : AV), binA prog .shr 22 (.int .u32 x) (.int .i64 (d : Int)) = some y ∧ binA prog .and 22 y (.int .u32 1) = some z ∧ binA prog .eql 22 z (.int .u32 1) = some (.bool b) := by
  have h1 : binA prog .shr 22 (.int .u32 x) (.int .i64 (d : Int)) = some (.int .u32 (x.fdiv (2 ^ min (d : Int).toNat (IntKind.bits .u32)))) := by
    rw [binA_shr, show decide ((d : Int) < 0) = false from decide_eq_false (by omega)]; rfl
  generalize x.fdiv (2 ^ min (d : Int).toNat (IntKind.bits .u32)) = y at h1
  have h2 := binA_and prog 50 .u32 y 1
  generalize IntKind.wrap .u32 (((BitVec.ofInt (IntKind.bits .u32) y &&& BitVec.ofInt (IntKind.bits .u32) 1).toNat : Nat) : Int) = z at h2
  exact ⟨_, _, _, h1, h2, binA_eql prog 50 .u32 z 1⟩
/-- Is the bit set? -/
noncomputable def sb (x : Int) (d : Nat) : Bool := (bit_ex x d).choose
theorem sb_spec (x : Int) (d : Nat) : ∃ (y z : AV), binA prog .shr 22 (.int .u32 x) (.int .i64 (d : Int)) = some y ∧ binA prog .and 22 y (.int .u32 1) = some z ∧ binA prog .eql 22 z (.int .u32 1) = some (.bool (sb x d)) := (bit_ex x d).choose_spec
noncomputable def setF (x : Int) (k i : Nat) : List Int := ((List.range' i k).filter fun t => sb x t).map fun t : Nat => (t : Int)
theorem setF_succ (x : Int) (k i : Nat) : setF x (k + 1) i = if sb x i = true then (i : Int) :: setF x k (i + 1) else setF x k (i + 1) := by
  simp only [setF, List.range'_succ, List.filter_cons]
  split <;> simp_all
theorem mem_setF {x : Int} {k i : Nat} {y : Int} (h : y ∈ setF x k i) : 0 ≤ y ∧ y < i + k := by
  rw [setF, List.mem_map] at h
  obtain ⟨t, h1, rfl⟩ := h
  rw [List.mem_filter] at h1
  have h2 := h1.1
  simp [List.mem_range'_1] at h2
  omega
theorem setF_sorted (x : Int) (k i : Nat) : (setF x k i).Pairwise (· < ·) := by
  rw [setF, List.pairwise_map]
  exact ((range_sorted k i).filter _).imp fun h => by omega
theorem setF_few (x : Int) (k i : Nat) : (setF x k i).length ≤ k := by
  have := List.length_filter_le (fun t => sb x t) (List.range' i k)
  simp only [setF, List.length_map]; simpa using this
theorem ring_set1 {v : Nat} (h2 : 2 ≤ v) (h31 : v ≤ 31) {x : Int} (h : setF x v 0 ≠ []) : RingOk v (setF x v 0) := by
  have hf := setF_few x v 0
  have hp : 0 < (setF x v 0).length := List.length_pos_iff.2 h
  exact ring_of (by omega) (by omega) hp (by omega) (fun y hy => by have := mem_setF hy; omega) (setF_sorted x v 0)
theorem ring_err {w : AV} {l : List Int} (hv : IsInts w l) {v : Int} (s : RingOk v l) : ∀ m, denC prog ann 14 [.int .i64 v, w] m = some (.int .i64 0, m) := by
  obtain ⟨e, he, hr⟩ := ring_spec hv (by have := s.few; omega) v
  have := he.uniq (.ok s)
  subst this
  exact hr
theorem gcd_last : ((List.range 32).all fun v => decide (v < 2) || decide (Nat.gcd (v - 1) v = 1)) = true := by decide +kernel
theorem gcd_pred {v : Nat} (h2 : 2 ≤ v) (h31 : v ≤ 31) : Nat.gcd (v - 1) v = 1 := by
  have h := List.all_eq_true.1 gcd_last v (List.mem_range.2 (by omega))
  rw [Bool.or_eq_true] at h
  rcases h with h | h
  · simp at h; omega
  · simpa using h
end Go.Proofs.YtofceaeboboflaaDoor

/-
  STRAPS (13): the code that counts the differences. Conditions: none.
-/
namespace Go.Proofs.YtofceaeboboflaaDoor
open Go.AM
open Go.Proofs.Tryd (prog)
set_option linter.all false
set_option maxRecDepth 100000
set_option maxHeartbeats 4000000

theorem rem_nat {v : Int} {l : List Int} (s : RingOk v l) {i j : Nat} (hi : i < l.length) (hj : j < l.length) : ∃ d : Nat, (nth l i - nth l j + v).tmod v = d ∧ (d : Int) < v := by
  have a := s.rng i hi
  have b := s.rng j hj
  have h := s.v2
  have e := Int.tmod_eq_emod_of_nonneg (a := nth l i - nth l j + v) (b := v) (by omega)
  have h1 := Int.emod_nonneg (nth l i - nth l j + v) (show v ≠ 0 by omega)
  have h2 := Int.emod_lt_of_pos (nth l i - nth l j + v) (show 0 < v by omega)
  exact ⟨((nth l i - nth l j + v) % v).toNat, by rw [e]; omega, by omega⟩
theorem df_in {w : AV} {v : Int} {l : List Int} (hv : IsInts w l) (s : RingOk v l) {i : Nat} (hi : i < l.length) (oid : Nat) (K : List Item) : ∀ (k j : Nat) (c : List Int) (m : Mem), j + k = l.length → m.h oid = some (.cells (ints c)) → c.length = v.toNat → Small c (1000000 + j) →
    ∃ m', m'.h oid = some (.cells (ints (dfF l v i k j c))) ∧ strap_differences.L2 (.int .i64 v) w (.sl oid 1 0 c.length c.length) (.int .i64 (nth l i)) w (.int .i64 l.length) (.int .i64 i) w (.int .i64 l.length) (.int .i64 j) m (.inBlock 1 :: .code strap_differences.r11 :: .inLoop strap_differences.l0 :: .inBlock 0 :: K) = strap_differences.L0 (.int .i64 v) w (.sl oid 1 0 c.length c.length) w (.int .i64 l.length) (.int .i64 ((i : Int) + 1)) m' K := by
  intro k
  have hfew := s.few
  have hv2 := s.v2
  have hv31 := s.v31
  have hwi : IntKind.wrap .i64 ((i : Int) + 1) = (i : Int) + 1 := wrap_id (by omega) (by omega)
  induction k with
  | zero =>
    intro j c m h1 hm hc hs
    have e : j = l.length := by omega
    subst e
    refine ⟨m, hm, ?_⟩
    rw [strap_differences.L2_eq]
    simp [hwi]
    done
  | succ k ih =>
    intro j c m h1 hm hc hs
    have hj : j < l.length := by omega
    have hw : IntKind.wrap .i64 ((j : Int) + 1) = (j : Int) + 1 := wrap_id (by omega) (by omega)
    by_cases e : i = j
    · subst e
      have hst := ih (i + 1) c m (by omega) hm hc (fun g => by have := hs g; omega)
      simp only [Int.natCast_add, Int.cast_ofNat_Int] at hst
      obtain ⟨m', g1, g2⟩ := hst
      refine ⟨m', by rw [dfF_succ, if_pos rfl]; exact g1, ?_⟩
      rw [strap_differences.L2_eq]
      simp [hj, hv.idx hj, ints_head hj, hwi, g2]
      done
    · have a1 := s.rng i hi
      have a2 := s.rng j hj
      have hne : ¬ nth l i = nth l j := fun h => e ((s.ne hi hj).1 h)
      obtain ⟨d, hd, hdv⟩ := rem_nat s hi hj
      have hw1 : IntKind.wrap .i64 (nth l i - nth l j) = nth l i - nth l j := wrap_id (by omega) (by omega)
      have hw2 : IntKind.wrap .i64 (nth l i - nth l j + v) = nth l i - nth l j + v := wrap_id (by omega) (by omega)
      have hv0 : ¬ v = 0 := by omega
      have hdl : d < c.length := by omega
      have hs2 := hs d
      have hwc : IntKind.wrap .i64 (nth c d + 1) = nth c d + 1 := wrap_id (by omega) (by omega)
      have hst := fun m hm => ih (j + 1) (bump c d) m (by omega) hm (by rw [bump_len, hc]) (by have := hs.bump (by omega) d; rwa [show (1000000 + (j : Int) + 1) = 1000000 + ((j + 1 : Nat) : Int) by omega] at this)
      rw [bump_len] at hst
      simp only [Int.natCast_add, Int.cast_ofNat_Int] at hst
      have hc' : c.set d (nth c d + 1) = bump c d := rfl
      obtain ⟨m', g1, g2⟩ := hst ⟨upd m.h oid (some (.cells (ints (bump c d)))), m.nx⟩ (by simp)
      refine ⟨m', by rw [dfF_succ, if_neg e, hd]; exact g1, ?_⟩
      rw [strap_differences.L2_eq]
      simp [hj, hv.idx hj, ints_head hj, hne, hw1, hw2, hv0, hd, hdl, hm, hwc, hw, hc', g2]
      done
theorem df_out {w : AV} {v : Int} {l : List Int} (hv : IsInts w l) (s : RingOk v l) (oid : Nat) : ∀ (k i : Nat) (c : List Int) (m : Mem), i + k = l.length → m.h oid = some (.cells (ints c)) → c.length = v.toNat → Small c (1000 * i) →
    strap_differences.L0 (.int .i64 v) w (.sl oid 1 0 c.length c.length) w (.int .i64 l.length) (.int .i64 i) m [.code strap_differences.r12, .code .ret] = some (intsV (dfO l v k i c), Mem.empty) := by
  intro k
  have hfew := s.few
  have hv2 := s.v2
  induction k with
  | zero =>
    intro i c m h1 hm hc hs
    have e : i = l.length := by omega
    subst e
    have hne : c ≠ [] := by intro e; rw [e] at hc; simp at hc; omega
    rw [strap_differences.L0_eq]
    simp [intsV, hne, dfO, hm]
    done
  | succ k ih =>
    intro i c m h1 hm hc hs
    have hi : i < l.length := by omega
    have hw : IntKind.wrap .i64 ((i : Int) + 1) = (i : Int) + 1 := wrap_id (by omega) (by omega)
    obtain ⟨m', g1, g2⟩ := df_in hv s hi oid [.code strap_differences.r12, .code .ret] l.length 0 c m (by omega) hm hc (fun g => by have := hs g; omega)
    simp only [Int.ofNat_zero, Int.cast_ofNat_Int] at g2
    have hst := ih (i + 1) (dfF l v i l.length 0 c) m' (by omega) g1 (by rw [dfF_len, hc]) (by
      have := hs.dfF (l := l) (v := v) (i := i) (k := l.length) (j := 0) (by omega)
      intro g; have := this g; omega)
    simp only [Int.natCast_add, Int.cast_ofNat_Int, dfF_len] at hst
    rw [strap_differences.L0_eq]
    simp [hi, hv.idx hi, ints_head hi, hv.len, g2, hst, dfO_succ]
    done
theorem diffs_spec {w : AV} {v : Int} {l : List Int} (hv : IsInts w l) (s : RingOk v l) (m : Mem) : denC prog ann 21 [.int .i64 v, w] m = some (intsV (diffs v l), m) := by
  have hcl : closedL [.int .i64 v, w] = true := by simp [hv.closed]
  have hv2 := s.v2
  have hv31 := s.v31
  obtain ⟨t, ht⟩ : ∃ t : Nat, v = t := ⟨v.toNat, by omega⟩
  have e : v.toNat = t := by omega
  rw [diffs, e]
  have lp := df_out hv s 0 l.length 0 (List.replicate t 0) ⟨upd Mem.empty.h 0 (some (.cells (List.replicate t (AV.int .i64 0)))), 1⟩ (by omega) (by simp [ints]) (by simp [e]) (fun g => by rw [nth_zero']; omega)
  simp only [Int.ofNat_zero, Int.cast_ofNat_Int, List.length_replicate] at lp
  rw [strap_differences.call_eq _ _ _ hcl]
  subst ht
  simp [hv.len, show t ≤ 4611686018427387904 by omega, show t * 8 ≤ 70368744177664 by omega, lp]
  done

end Go.Proofs.YtofceaeboboflaaDoor

/-
  STRAPS (10): Single, and the specification's. Conditions: none.
-/
namespace Go.Proofs.YtofceaeboboflaaDoor
open Go.AM
open Go.Proofs.Tryd (prog)
set_option linter.all false
set_option maxRecDepth 100000
set_option maxHeartbeats 4000000

def endsAt (L : Int) (l : List Int) : Bool := decide (top l = L)
/-- Length after length. -/
def sngS (k : Nat) : Nat → Int → Option (List Int)
  | 0, _ => none
  | n + 1, L => match findF gSingle (endsAt L) L (k - 1) [0] with
    | some r => some r
    | none => sngS k n (L + 1)
/-! ### The specification's -/
def rsF (L : Int) : Nat → List Int → Option (List Int)
  | 0, l => if (tw0 l l.length 0 []).isEmpty = true then (if top l = L then some l else none) else none
  | f + 1, l => if (tw0 l l.length 0 []).isEmpty = true then firstF (rsF L f) l (L - top l).toNat (top l + 1) else none
def rsS (k : Nat) : Nat → Int → Option (List Int)
  | 0, _ => none
  | n + 1, L => match rsF L (k - 1) [0] with
    | some r => some r
    | none => rsS k n (L + 1)
end Go.Proofs.YtofceaeboboflaaDoor

/-
  STRAPS (11): Full, and the specification's. Conditions: none.
-/
namespace Go.Proofs.YtofceaeboboflaaDoor
open Go.AM
open Go.Proofs.Tryd (prog)
set_option linter.all false
set_option maxRecDepth 100000
set_option maxHeartbeats 4000000

theorem drop_ints {v : AV} {l : List Int} (h : IsInts v l) (h1 : 1 ≤ l.length) : ∃ v', sliceSl 1 v (some (.int .i64 1)) none = some v' ∧ IsInts v' (l.drop 1) := by
  rcases h with ⟨rfl, rfl⟩ | ⟨ex, rfl⟩
  · simp at h1
  · exact ⟨.fsl ex (l.length - 1) (ints (l.drop 1)), by
      have h2 : (1 : Int) ≤ l.length := by omega
      have h3 : (l.drop 1).take (l.length - 1) = l.drop 1 := List.take_of_length_le (by simp)
      rw [List.drop_one] at h3
      simp [sliceSl, bnds, bnd, h2, h3], .inr ⟨ex, by simp⟩⟩
def always (_ : List Int) : Bool := true
def fullAt (L : Int) (l : List Int) : Bool := decide (top l = L) && !decide ((0 : Int) ∈ (counts l).drop 1)
def flS (L : Int) : Nat → Nat → Option (List Int)
  | 0, _ => none
  | n + 1, size => if ((size : Int) * ((size : Int) - 1)).tdiv 2 < L then flS L n (size + 1) else match findF always (fullAt L) L (size - 1) [0] with
    | some r => some r
    | none => flS L n (size + 1)
/-! ### The specification's -/
def rfF (L : Int) : Nat → List Int → Option (List Int)
  | 0, l => if top l = L then (if (misses l).length = 0 then some l else none) else none
  | f + 1, l => firstF (rfF L f) l (L - top l).toNat (top l + 1)
def rfS (L : Int) : Nat → Nat → Option (List Int)
  | 0, _ => none
  | n + 1, k => match rfF L (k - 1) [0] with
    | some r => some r
    | none => rfS L n (k + 1)
end Go.Proofs.YtofceaeboboflaaDoor

/-
  STRAPS (14): Even, and the specification's. Conditions: none.
-/
namespace Go.Proofs.YtofceaeboboflaaDoor
open Go.AM
open Go.Proofs.Tryd (prog)
set_option linter.all false
set_option maxRecDepth 100000
set_option maxHeartbeats 4000000

def eqA (c : List Int) (k d : Nat) : Bool := (List.range' d k).all fun g => decide (nth c g = nth c 1)
/-- What the specification's Even hands back. -/
def evenV (c : List Int) (n : Nat) : AV := if eqA c n 1 = true then .tup [.int .i64 (nth c 1), .bool true] else .tup [.int .i64 0, .bool false]
/-! ### The code's -/
def minL (c : List Int) : Int := (c.drop 1).foldl min (nth c 0)
theorem min_loop {w : AV} {c : List Int} (hw0 : IsInts w c) (hcl : c.length ≤ 1001) : ∀ (k i : Nat) (x : Int) (m : Mem), i + k = c.length →
    slices_Min_int.L0 w (.int .i64 x) (.int .i64 i) m [.code slices_Min_int.r8, .code .ret] = some (.int .i64 ((c.drop i).foldl min x), Mem.empty) := by
  intro k
  induction k with
  | zero =>
    intro i x m h1
    have e : i = c.length := by omega
    subst e
    rw [slices_Min_int.L0_eq]
    simp [hw0.len]
    done
  | succ k ih =>
    intro i x m h1
    have hi : i < c.length := by omega
    have hw : IntKind.wrap .i64 ((i : Int) + 1) = (i : Int) + 1 := wrap_id (by omega) (by omega)
    have hst := ih (i + 1) (min x (nth c i)) m (by omega)
    simp only [Int.natCast_add, Int.cast_ofNat_Int] at hst
    rw [drop_nth hi, List.foldl_cons, slices_Min_int.L0_eq]
    simp [hi, hw0.len, hw0.idx hi, ints_head hi, hw, hst]
    done
theorem min_spec {w : AV} {c : List Int} (hw0 : IsInts w c) (hcl : c.length ≤ 1001) (h0 : 0 < c.length) (m : Mem) : denC prog ann 22 [w] m = some (.int .i64 (minL c), m) := by
  have lp := min_loop hw0 hcl (c.length - 1) 1 (nth c 0) Mem.empty (by omega)
  simp only [Int.cast_ofNat_Int] at lp
  have i0 := hw0.idx h0 .i64
  have i1 := ints_head h0
  simp only [Int.ofNat_zero, Int.cast_ofNat_Int, List.drop_zero] at i0 i1
  rw [slices_Min_int.call_eq _ _ (by simp [hw0.closed])]
  have hn : ¬ (c.length : Int) < 1 := by omega
  simp [hw0.len, hn, i0, i1, lp, minL]
  done

theorem foldl_max_ge : ∀ (L : List Int) (x : Int), x ≤ L.foldl max x ∧ ∀ y ∈ L, y ≤ L.foldl max x
  | [], x => ⟨Int.le_refl _, fun _ h => by cases h⟩
  | a :: L, x => by
    obtain ⟨h1, h2⟩ := foldl_max_ge L (max x a)
    refine ⟨by rw [List.foldl_cons]; omega, fun y hy => ?_⟩
    rw [List.foldl_cons]
    rcases List.mem_cons.1 hy with rfl | hy
    · omega
    · exact h2 y hy
theorem foldl_min_le : ∀ (L : List Int) (x : Int), L.foldl min x ≤ x ∧ ∀ y ∈ L, L.foldl min x ≤ y
  | [], x => ⟨Int.le_refl _, fun _ h => by cases h⟩
  | a :: L, x => by
    obtain ⟨h1, h2⟩ := foldl_min_le L (min x a)
    refine ⟨by rw [List.foldl_cons]; omega, fun y hy => ?_⟩
    rw [List.foldl_cons]
    rcases List.mem_cons.1 hy with rfl | hy
    · omega
    · exact h2 y hy
theorem foldl_max_same : ∀ (L : List Int) (x : Int), (∀ y ∈ L, y = x) → L.foldl max x = x
  | [], _, _ => rfl
  | a :: L, x, h => by
    have : a = x := h a (by simp)
    subst this
    rw [List.foldl_cons, Int.max_self]
    exact foldl_max_same L a fun y hy => h y (by simp [hy])
theorem foldl_min_same : ∀ (L : List Int) (x : Int), (∀ y ∈ L, y = x) → L.foldl min x = x
  | [], _, _ => rfl
  | a :: L, x, h => by
    have : a = x := h a (by simp)
    subst this
    rw [List.foldl_cons, Int.min_self]
    exact foldl_min_same L a fun y hy => h y (by simp [hy])
theorem nth_drop (c : List Int) (i j : Nat) : nth (c.drop i) j = nth c (i + j) := by simp [nth, List.getD, List.getElem?_drop]
theorem eqA_iff {c : List Int} {v : Nat} (hc : c.length = v) (hv : 2 ≤ v) : eqA c (v - 1) 1 = true ↔ ∀ y ∈ c.drop 1, y = nth c 1 := by
  rw [eqA, List.all_eq_true]
  constructor
  · intro a y hy
    obtain ⟨i, hi, e⟩ := List.getElem_of_mem hy
    rw [nth_get hi, nth_drop] at e
    simp at hi
    have := a (1 + i) (by simp [List.mem_range'_1]; omega)
    rw [decide_eq_true_eq] at this
    omega
  · intro a g hg
    simp [List.mem_range'_1] at hg
    rw [decide_eq_true_eq]
    refine a _ ?_
    have : g - 1 < (c.drop 1).length := by simp; omega
    have e := nth_drop c 1 (g - 1)
    rw [show 1 + (g - 1) = g by omega] at e
    rw [← e, ← nth_get this]
    exact List.getElem_mem _
theorem minmax {c : List Int} {v : Nat} (hc : c.length = v) (hv : 2 ≤ v) : minL (c.drop 1) = maxL (c.drop 1) ↔ eqA c (v - 1) 1 = true := by
  rw [eqA_iff hc hv]
  have h0 : c.drop 1 = nth c 1 :: c.drop 2 := drop_nth (by omega)
  have hn : nth (c.drop 1) 0 = nth c 1 := by rw [nth_drop]
  have hd : (c.drop 1).drop 1 = c.drop 2 := by rw [List.drop_drop]
  rw [minL, maxL, hn, hd]
  obtain ⟨a1, a2⟩ := foldl_max_ge (c.drop 2) (nth c 1)
  obtain ⟨b1, b2⟩ := foldl_min_le (c.drop 2) (nth c 1)
  constructor
  · intro h y hy
    rw [h0] at hy
    rcases List.mem_cons.1 hy with rfl | hy
    · rfl
    · have := a2 y hy
      have := b2 y hy
      omega
  · intro h
    have h' : ∀ y ∈ c.drop 2, y = nth c 1 := fun y hy => h y (by rw [h0]; simp [hy])
    rw [foldl_max_same _ _ h', foldl_min_same _ _ h']
theorem diffs_len (v : Int) (l : List Int) : (diffs v l).length = v.toNat := by rw [diffs, dfO_len, List.length_replicate]
theorem even_spec {w : AV} {v : Nat} {l : List Int} (hv : IsInts w l) (s : RingOk v l) (hr : ∀ m, denC prog ann 14 [.int .i64 v, w] m = some (.int .i64 0, m)) (m : Mem) :
    denC prog ann 10 [.int .i64 v, w] m = some (if eqA (diffs v l) (v - 1) 1 = true then .tup [.int .i64 (nth (diffs v l) 1), .int .i64 0] else .tup [.int .i64 0, .int .i64 5], m) := by
  have hcl : closedL [.int .i64 v, w] = true := by simp [hv.closed]
  have hv2 := s.v2
  have hv31 := s.v31
  have hlen := diffs_len v l
  rw [Int.toNat_natCast] at hlen
  have hw0 := intsV_is (diffs v l)
  have hds := fun m => diffs_spec hv s m
  have mm := minmax hlen (by omega)
  generalize diffs v l = c at *
  obtain ⟨v', d1, d2⟩ := drop_ints hw0 (by omega)
  have hl1 : (c.drop 1).length = v - 1 := by simp; omega
  have h58 := fun m => max_spec d2 (by omega) (by omega) m
  have h57 := fun m => min_spec d2 (by omega) (by omega) m
  have i0 := d2.idx (i := 0) (by omega) .i64
  have i1 := ints_head (l := c.drop 1) (i := 0) (by omega)
  simp only [Int.ofNat_zero, Int.cast_ofNat_Int, List.drop_zero] at i0 i1
  rw [nth_drop, show 1 + 0 = 1 from rfl] at i1
  generalize c.drop 1 = T at *
  rw [strap_Even.call_eq _ _ _ hcl]
  by_cases q : eqA c (v - 1) 1 = true
  · rw [if_pos q]
    have q' := mm.2 q
    simp [hv.closed, hr, hds, hw0.closed, d1, d2.closed, h58, h57, q', i0, i1]
    done
  · rw [if_neg q]
    have q' : ¬ minL T = maxL T := fun h => q (mm.1 h)
    simp [hv.closed, hr, hds, hw0.closed, d1, d2.closed, h58, h57, q']
    done
end Go.Proofs.YtofceaeboboflaaDoor

/-
  STRAPS: the differences of a round strap as sums over pairs: what multiplying and moving leaves, the count of all pairs, and the squares. Conditions: none.
-/
namespace Go.Proofs.YtofceaeboboflaaDoor
open Go.AM
set_option linter.all false
set_option maxRecDepth 100000
set_option maxHeartbeats 4000000

/-! ### Sums over lists -/
def S1 (l : List Int) (f : Int → Int) : Int := (l.map f).foldr (· + ·) 0
theorem S1_nil (f : Int → Int) : S1 [] f = 0 := rfl
theorem S1_cons (a : Int) (l : List Int) (f : Int → Int) : S1 (a :: l) f = f a + S1 l f := rfl
theorem S1_append (a b : List Int) (f : Int → Int) : S1 (a ++ b) f = S1 a f + S1 b f := by
  induction a with
  | nil => simp [S1_nil]
  | cons x a ih => rw [List.cons_append, S1_cons, S1_cons, ih]; omega
theorem S1_add (l : List Int) (f g : Int → Int) : S1 l (fun x => f x + g x) = S1 l f + S1 l g := by
  induction l with
  | nil => rfl
  | cons a l ih => rw [S1_cons, S1_cons, S1_cons, ih]; omega
theorem S1_mul (c : Int) (l : List Int) (f : Int → Int) : S1 l (fun x => c * f x) = c * S1 l f := by
  induction l with
  | nil => simp [S1_nil]
  | cons a l ih => rw [S1_cons, S1_cons, ih, Int.mul_add]
theorem S1_zero (l : List Int) : S1 l (fun _ => 0) = 0 := by
  induction l with
  | nil => rfl
  | cons a l ih => rw [S1_cons, ih]; rfl
theorem S1_const (c : Int) (l : List Int) : S1 l (fun _ => c) = l.length * c := by
  induction l with
  | nil => simp [S1_nil]
  | cons a l ih => rw [S1_cons, ih, List.length_cons, Int.natCast_add, Int.add_mul]; omega
theorem S1_congr {l : List Int} {f g : Int → Int} (h : ∀ x ∈ l, f x = g x) : S1 l f = S1 l g := by
  induction l with
  | nil => rfl
  | cons a l ih => rw [S1_cons, S1_cons, h a (by simp), ih fun x hx => h x (by simp [hx])]
theorem S1_map (l : List Int) (g f : Int → Int) : S1 (l.map g) f = S1 l (fun x => f (g x)) := by
  induction l with
  | nil => rfl
  | cons a l ih => rw [List.map_cons, S1_cons, S1_cons, ih]
theorem S1_perm {a b : List Int} (h : a.Perm b) (f : Int → Int) : S1 a f = S1 b f := by
  induction h with
  | nil => rfl
  | cons x _ ih => rw [S1_cons, S1_cons, ih]
  | swap x y l => rw [S1_cons, S1_cons, S1_cons, S1_cons]; omega
  | trans _ _ h1 h2 => rw [h1, h2]
theorem S1_swap (l k : List Int) (f : Int → Int → Int) : S1 l (fun a => S1 k (fun b => f a b)) = S1 k (fun b => S1 l (fun a => f a b)) := by
  induction l with
  | nil => rw [S1_nil]; exact (S1_zero k).symm
  | cons a l ih => rw [S1_cons, ih, ← S1_add]; exact S1_congr fun b _ => by rw [S1_cons]

def ind (p : Prop) [Decidable p] : Int := if p then 1 else 0
/-- Exactly one. -/
theorem S1_one {l : List Int} {x : Int} (h : l.Nodup) (hx : x ∈ l) : S1 l (fun d => ind (x = d)) = 1 := by
  induction l with
  | nil => cases hx
  | cons a l ih =>
    rw [S1_cons]
    rw [List.nodup_cons] at h
    by_cases e : x = a
    · subst e
      have : S1 l (fun d => ind (x = d)) = S1 l (fun _ => 0) := S1_congr fun d hd => by
        unfold ind; rw [if_neg]; rintro rfl; exact h.1 hd
      rw [this, S1_zero]; simp [ind]
    · rcases List.mem_cons.1 hx with hx | hx
      · exact (e hx).elim
      · rw [ih h.2 hx]; simp [ind, e]
/-- How many pairs have a difference. -/
def Dn (v : Int) (l : List Int) (d : Int) : Int := S1 l fun a => S1 l fun b => ind ((a - b) % v = d)

/-! ### What the code counts -/
def sumI (k j : Nat) (f : Nat → Int) : Int := ((List.range' j k).map f).foldr (· + ·) 0
theorem sumI_succ (k j : Nat) (f : Nat → Int) : sumI (k + 1) j f = f j + sumI k (j + 1) f := rfl
theorem sumI_list (l : List Int) (f : Int → Int) : ∀ (k j : Nat), j + k = l.length → sumI k j (fun q => f (nth l q)) = S1 (l.drop j) f
  | 0, j, h => by rw [List.drop_of_length_le (by omega)]; rfl
  | k + 1, j, h => by rw [sumI_succ, sumI_list l f k (j + 1) (by omega), drop_nth (show j < l.length by omega), S1_cons]
theorem bump_nth {c : List Int} {h g : Nat} (hg : h < c.length) : nth (bump c h) g = nth c g + ind (h = g) := by
  rw [bump, nth_set]
  unfold ind
  by_cases e : h = g
  · subst e; simp [hg]
  · simp [e]
theorem dfF_nth {v : Int} {l : List Int} (s : RingOk v l) {i : Nat} (hi : i < l.length) {g : Nat} (hg : 1 ≤ g) : ∀ (k j : Nat) (c : List Int), j + k = l.length → c.length = v.toNat →
    nth (dfF l v i k j c) g = nth c g + sumI k j fun q => ind ((nth l i - nth l q) % v = g)
  | 0, j, c, h, hc => by simp [dfF, sumI]
  | k + 1, j, c, h, hc => by
    have hj : j < l.length := by omega
    have hv := s.v2
    obtain ⟨d, hd, hdv⟩ := rem_nat s hi hj
    have hd' : (nth l i - nth l j) % v = d := by
      have a := s.rng i hi
      have b := s.rng j hj
      rw [← hd, Int.tmod_eq_emod_of_nonneg (by omega), Int.add_emod_right]
    rw [dfF_succ, sumI_succ]
    by_cases e : i = j
    · subst e
      rw [if_pos rfl, dfF_nth s hi hg k (i + 1) c (by omega) hc]
      have : ¬ (0 : Int) = g := by omega
      simp [ind, this]
    · rw [if_neg e, hd, dfF_nth s hi hg k (j + 1) _ (by omega) (by rw [bump_len, hc]), Int.toNat_natCast, bump_nth (by omega), hd']
      unfold ind
      have : ((d : Int) = (g : Int)) ↔ d = g := by omega
      simp only [this]
      omega
theorem dfO_nth {v : Int} {l : List Int} (s : RingOk v l) {g : Nat} (hg : 1 ≤ g) : ∀ (k i : Nat) (c : List Int), i + k = l.length → c.length = v.toNat →
    nth (dfO l v k i c) g = nth c g + sumI k i fun p => S1 l fun b => ind ((nth l p - b) % v = g)
  | 0, i, c, h, hc => by simp [dfO, sumI]
  | k + 1, i, c, h, hc => by
    have hi : i < l.length := by omega
    rw [dfO_succ, sumI_succ, dfO_nth s hg k (i + 1) _ (by omega) (by rw [dfF_len, hc]), dfF_nth s hi hg l.length 0 c (by omega) hc]
    have := sumI_list l (fun b => ind ((nth l i - b) % v = g)) l.length 0 (by omega)
    rw [List.drop_zero] at this
    rw [this]; omega
theorem diffs_nth {v : Nat} {l : List Int} (s : RingOk v l) {g : Nat} (hg : 1 ≤ g) : nth (diffs v l) g = Dn v l g := by
  rw [diffs, dfO_nth s hg l.length 0 _ (by omega) (by simp), nth_zero']
  have := sumI_list l (fun a => S1 l fun b => ind ((a - b) % (v : Int) = g)) l.length 0 (by omega)
  rw [List.drop_zero] at this
  rw [this, Int.zero_add]; rfl

/-! ### Multiplied and moved -/
theorem emod_key {v t u : Nat} (htu : t * u % v = 1 % v) (hv : 0 < v) {x d : Int} (hd : 0 ≤ d ∧ d < v) : (x * t) % v = d ↔ x % v = (u * d) % (v : Int) := by
  have e1 : ((t : Int) * u) % v = 1 % v := by exact_mod_cast htu
  constructor
  · intro h
    rw [← h, Int.mul_emod, Int.emod_emod, ← Int.mul_emod, show (u : Int) * (x * t) = x * (t * u) by rw [Int.mul_comm, Int.mul_assoc], Int.mul_emod x, e1, ← Int.mul_emod, Int.mul_one]
  · intro h
    rw [Int.mul_emod, h, ← Int.mul_emod, show (u : Int) * d * (t : Int) = d * (t * u) by rw [Int.mul_comm (u : Int) d, Int.mul_assoc, Int.mul_comm (u : Int) t], Int.mul_emod d, e1, ← Int.mul_emod, Int.mul_one]
    exact Int.emod_eq_of_lt hd.1 hd.2
theorem Dn_mv {v t u : Nat} {s : Int} {l : List Int} (r : RingOk v l) (hs : 0 ≤ s) (htu : t * u % v = 1 % v) {d : Int} (hd : 0 ≤ d ∧ d < v) : Dn v (mvL v t s l) d = Dn v l ((u * d) % v) := by
  have hv : 0 < v := by have := r.v2; omega
  unfold Dn mvL
  rw [S1_perm (sortI_perm _), S1_map]
  refine S1_congr fun a ha => ?_
  rw [S1_perm (sortI_perm _), S1_map]
  refine S1_congr fun b hb => ?_
  have pa := (mvF_rng (v := v) hv (mv_pos (v := v) (t := t) hs (r.mem ha).1)).2.2
  have pb := (mvF_rng (v := v) hv (mv_pos (v := v) (t := t) hs (r.mem hb).1)).2.2
  have e : ((mvF v t s a - mvF v t s b) % (v : Int) = d) ↔ ((a - b) % (v : Int) = (u * d) % v) := by
    rw [pa, pb, ← Int.sub_emod, show a * (t : Int) + s - (b * t + s) = (a - b) * t by rw [Int.sub_mul]; omega]
    exact emod_key htu hv hd
  unfold ind
  simp only [e]
/-- Even sets stay even. -/
theorem even_orb {v : Nat} {l o : List Int} (r : RingOk v l) (h : Orb v l o) (he : eqA (diffs v l) (v - 1) 1 = true) : eqA (diffs v o) (v - 1) 1 = true ∧ nth (diffs v o) 1 = nth (diffs v l) 1 := by
  have ro := h.ring r
  obtain ⟨t, s, h1, h2, h3, h4, rfl⟩ := h
  have hv2 := r.v2
  obtain ⟨u, u1, u2, u3⟩ := inv_ex (v := v) (t := t) (by omega) (by have := r.v31; omega) h1 h2
  have htu : t * u % v = 1 % v := by rw [u3, Nat.mod_eq_of_lt (by omega)]
  have all : ∀ d : Nat, 1 ≤ d → d < v → nth (diffs v (mvL v t s l)) d = nth (diffs v l) 1 := by
    intro d d1 d2
    rw [diffs_nth ro d1, Dn_mv r h3 htu (by omega)]
    have p0 := Int.emod_nonneg ((u : Int) * d) (show (v : Int) ≠ 0 by omega)
    have p1 := Int.emod_lt_of_pos ((u : Int) * d) (show (0 : Int) < v by omega)
    obtain ⟨e, hE⟩ : ∃ e : Nat, ((u : Int) * d) % v = e := ⟨(((u : Int) * d) % v).toNat, by omega⟩
    have hE0 : e ≠ 0 := by
      rintro rfl
      have hdv : (v : Int) ∣ (d : Int) * u := by rw [Int.mul_comm]; exact Int.dvd_of_emod_eq_zero hE
      have := dvd_small u2 d2 hdv
      omega
    rw [hE, ← diffs_nth r (by omega)]
    rw [eqA, List.all_eq_true] at he
    have := he e (by simp [List.mem_range'_1]; omega)
    simpa using this
  refine ⟨?_, all 1 (by omega) (by omega)⟩
  rw [eqA, List.all_eq_true]
  intro d hd
  simp [List.mem_range'_1] at hd
  rw [all d (by omega) (by omega), all 1 (by omega) (by omega)]
  simp

/-! ### All pairs; squares -/
def rng (v : Nat) : List Int := (List.range' 0 v).map fun t : Nat => (t : Int)
theorem mem_rng {v : Nat} {x : Int} : x ∈ rng v ↔ 0 ≤ x ∧ x < v := by
  unfold rng
  rw [List.mem_map]
  constructor
  · rintro ⟨t, h, rfl⟩
    simp [List.mem_range'_1] at h
    omega
  · rintro ⟨h1, h2⟩
    exact ⟨x.toNat, by simp [List.mem_range'_1]; omega, by omega⟩
theorem rng_nodup (v : Nat) : (rng v).Nodup := by
  unfold rng
  rw [List.nodup_iff_pairwise_ne, List.pairwise_map]
  exact (range_sorted v 0).imp fun h => by omega
/-- Sums over pairs are sums over differences. -/
theorem pairs_sum {v : Nat} (hv : 0 < v) (l : List Int) (f : Int → Int) : (S1 l fun a => S1 l fun b => f ((a - b) % v)) = S1 (rng v) fun d => f d * Dn v l d := by
  have h1 : ∀ x : Int, f (x % v) = S1 (rng v) fun d => f d * ind (x % v = d) := by
    intro x
    have hm : x % (v : Int) ∈ rng v := mem_rng.2 ⟨Int.emod_nonneg _ (by omega), Int.emod_lt_of_pos _ (by omega)⟩
    have : (S1 (rng v) fun d => f d * ind (x % v = d)) = S1 (rng v) fun d => f (x % v) * ind (x % v = d) := S1_congr fun d _ => by
      unfold ind
      by_cases e : x % (v : Int) = d
      · rw [e]
      · simp [e]
    rw [this, S1_mul, S1_one (rng_nodup v) hm, Int.mul_one]
  have h2 : (S1 l fun a => S1 l fun b => f ((a - b) % v)) = S1 l fun a => S1 (rng v) fun d => S1 l fun b => f d * ind ((a - b) % v = d) := S1_congr fun a _ => by
    rw [← S1_swap]; exact S1_congr fun b _ => h1 (a - b)
  rw [h2, S1_swap]
  refine S1_congr fun d _ => ?_
  rw [Dn, ← S1_mul]
  exact S1_congr fun a _ => S1_mul ..
theorem rng_cons {v : Nat} (hv : 0 < v) : rng v = 0 :: (List.range' 1 (v - 1)).map fun t : Nat => (t : Int) := by
  obtain ⟨k, rfl⟩ : ∃ k, v = k + 1 := ⟨v - 1, by omega⟩
  unfold rng
  rw [List.range'_succ]
  rfl
theorem Dn_zero {v : Nat} {l : List Int} (r : RingOk v l) : Dn v l 0 = l.length := by
  have hn : l.Nodup := r.pw.imp fun h e => by omega
  unfold Dn
  have : (S1 l fun a => S1 l fun b => ind ((a - b) % (v : Int) = 0)) = S1 l fun _ => 1 := S1_congr fun a ha => by
    rw [← S1_one hn ha]
    refine S1_congr fun b hb => ?_
    have pa := r.mem ha
    have pb := r.mem hb
    unfold ind
    have : ((a - b) % (v : Int) = 0) ↔ a = b := by
      constructor
      · intro h
        obtain ⟨k, hk⟩ := Int.dvd_of_emod_eq_zero h
        have : k = 0 := by
          rcases Int.lt_trichotomy k 0 with h | h | h
          · have : (v : Int) * k ≤ v * (-1) := Int.mul_le_mul_of_nonneg_left (by omega) (by omega); omega
          · exact h
          · have : (v : Int) * 1 ≤ v * k := Int.mul_le_mul_of_nonneg_left (by omega) (by omega); omega
        subst this; omega
      · rintro rfl; simp
    simp only [this]
  rw [this, S1_const, Int.mul_one]
theorem even_Dn {v : Nat} {l : List Int} (r : RingOk v l) (he : eqA (diffs v l) (v - 1) 1 = true) {d : Int} (h1 : 1 ≤ d) (h2 : d < v) : Dn v l d = nth (diffs v l) 1 := by
  rw [eqA, List.all_eq_true] at he
  have := he d.toNat (by simp [List.mem_range'_1]; omega)
  rw [decide_eq_true_eq, diffs_nth r (by omega)] at this
  rwa [show ((d.toNat : Nat) : Int) = d by omega] at this
/-- T1. -/
theorem even_count {v : Nat} {l : List Int} (r : RingOk v l) (he : eqA (diffs v l) (v - 1) 1 = true) : (l.length : Int) * ((l.length : Int) - 1) = nth (diffs v l) 1 * ((v : Int) - 1) := by
  have hv := r.v2
  have h := pairs_sum (v := v) (by omega) l (fun _ => 1)
  have h1 : (S1 l fun a => S1 l fun b => (1 : Int)) = l.length * l.length := by
    have : (S1 l fun a => S1 l fun b => (1 : Int)) = S1 l fun _ => (l.length : Int) := S1_congr fun a _ => by rw [S1_const, Int.mul_one]
    rw [this, S1_const]
  rw [h1, rng_cons (by omega), S1_cons] at h
  have h2 : (S1 ((List.range' 1 (v - 1)).map fun t : Nat => (t : Int)) fun d => 1 * Dn v l d) = S1 ((List.range' 1 (v - 1)).map fun t : Nat => (t : Int)) fun _ => nth (diffs v l) 1 := S1_congr fun d hd => by
    obtain ⟨t, ht, rfl⟩ := List.mem_map.1 hd
    simp [List.mem_range'_1] at ht
    rw [Int.one_mul, even_Dn r he (by omega) (by omega)]
  rw [h2, S1_const, List.length_map, List.length_range', Int.one_mul, Dn_zero r] at h
  rw [Int.mul_sub, h, show (((v - 1 : Nat) : Int)) = (v : Int) - 1 by omega, Int.mul_comm ((v : Int) - 1)]
  omega
def chi (x : Int) : Int := if x % 2 = 0 then 1 else -1
theorem chi_sub {v : Nat} (hv : v % 2 = 0) (h0 : 0 < v) (a b : Int) : chi ((a - b) % v) = chi a * chi b := by
  have e : ((a - b) % (v : Int)) % 2 = (a - b) % 2 := Int.emod_emod_of_dvd _ (by omega)
  unfold chi
  rw [e]
  rcases Int.emod_two_eq a with h1 | h1 <;> rcases Int.emod_two_eq b with h2 | h2
  · rw [if_pos (by omega), if_pos h1, if_pos h2]; rfl
  · rw [if_neg (by omega), if_pos h1, if_neg (by omega)]; rfl
  · rw [if_neg (by omega), if_neg (by omega), if_pos h2]; rfl
  · rw [if_pos (by omega), if_neg (by omega), if_neg (by omega)]; rfl
theorem chi_rng : ∀ w : Nat, S1 (rng (2 * w)) chi = 0
  | 0 => rfl
  | w + 1 => by
    have e : rng (2 * (w + 1)) = rng (2 * w) ++ [((2 * w : Nat) : Int), ((2 * w + 1 : Nat) : Int)] := by
      unfold rng
      rw [show 2 * (w + 1) = 2 * w + 2 by omega, ← List.range'_append_1 (s := 0) (m := 2 * w) (n := 2), List.map_append, Nat.zero_add]
      rfl
    rw [e, S1_append, chi_rng w, S1_cons, S1_cons, S1_nil]
    unfold chi
    rw [if_pos (by omega), if_neg (by omega)]
    rfl
/-- T3. -/
theorem even_square {v : Nat} {l : List Int} (r : RingOk v l) (hv2 : v % 2 = 0) (he : eqA (diffs v l) (v - 1) 1 = true) : S1 l chi * S1 l chi = (l.length : Int) - nth (diffs v l) 1 := by
  have hv := r.v2
  have h := pairs_sum (v := v) (by omega) l chi
  have h1 : (S1 l fun a => S1 l fun b => chi ((a - b) % v)) = S1 l chi * S1 l chi := by
    have : (S1 l fun a => S1 l fun b => chi ((a - b) % v)) = S1 l fun a => S1 l chi * chi a := S1_congr fun a _ => by
      rw [Int.mul_comm, ← S1_mul]; exact S1_congr fun b _ => chi_sub hv2 (by omega) a b
    rw [this, S1_mul]
  obtain ⟨w, rfl⟩ : ∃ w, v = 2 * w := ⟨v / 2, by omega⟩
  have h0 := chi_rng w
  rw [h1, rng_cons (by omega), S1_cons] at h
  rw [rng_cons (by omega), S1_cons] at h0
  have h2 : (S1 ((List.range' 1 (2 * w - 1)).map fun t : Nat => (t : Int)) fun d => chi d * Dn (2 * w : Nat) l d) = S1 ((List.range' 1 (2 * w - 1)).map fun t : Nat => (t : Int)) fun d => nth (diffs (2 * w : Nat) l) 1 * chi d := S1_congr fun d hd => by
    obtain ⟨t, ht, rfl⟩ := List.mem_map.1 hd
    simp [List.mem_range'_1] at ht
    rw [even_Dn r he (by omega) (by omega), Int.mul_comm]
  have h3 : chi 0 = 1 := rfl
  rw [h2, S1_mul, Dn_zero r, h3, Int.one_mul] at h
  rw [h3] at h0
  have h4 : S1 ((List.range' 1 (2 * w - 1)).map fun t : Nat => (t : Int)) chi = -1 := by omega
  rw [h4] at h
  omega
theorem chi_bound (l : List Int) : -(l.length : Int) ≤ S1 l chi ∧ S1 l chi ≤ l.length := by
  induction l with
  | nil => exact ⟨by simp [S1_nil], by simp [S1_nil]⟩
  | cons a l ih =>
    rw [S1_cons, List.length_cons]
    have : chi a = 1 ∨ chi a = -1 := by unfold chi; split <;> simp
    omega
end Go.Proofs.YtofceaeboboflaaDoor

/-
  BODIES OF FUNCTIONS OF THE PROGRAM AS SMALL OPERATIONS (written by gen.py; checked by the kernel against the program). Conditions: none.
-/
namespace Go.Proofs.YtofceaeboboflaaDoor
open Go.AM
open Go.Proofs.Tryd (prog)
set_option maxRecDepth 100000
set_option linter.all false

namespace l04_made
/-- pommel/pommellaw04.made -/
noncomputable def b : Code := (Tryd.f7.body).getD .skip
theorem hf : prog.funcs[7]? = some Tryd.f7 := by kernel_rfl
noncomputable def r0 : Code := findReg b 0
noncomputable def r1 : Code := findReg b 1
noncomputable def r2 : Code := findReg b 2
noncomputable def k0 : Code := findBlk b 0
noncomputable def l0 : Code := loopOf k0
noncomputable def L0 (x1 x4 x5 : AV) (m : Mem) (K : List Item) : Option Res := den prog ann 7 (.code l0 :: .inLoop l0 :: .inBlock 0 :: K) ⟨[(1, x1), (4, x4), (5, x5)], 48, m⟩
noncomputable def r3 : Code := findReg b 3
noncomputable def i0 : Code := findCond b 0
noncomputable def i0t : Code := thenOf i0
noncomputable def i0e : Code := elseOf i0
noncomputable def k1 : Code := findBlk b 1
noncomputable def r4 : Code := findReg b 4
noncomputable def r5 : Code := findReg b 5
theorem b_eq (K : List Item) (s : St) : den prog ann 7 (.code b :: K) s = den prog ann 7 (.code r0 :: .code r1 :: .code r2 :: .code k0 :: .code r5 :: .code .ret :: K) s := den_flat hf (l := [r0, r1, r2, k0, r5, .ret]) (by kernel_rfl) K s
theorem r0_eq (K : List Item) (s : St) : den prog ann 7 (.code r0 :: K) s = mreg prog ann 7 none [] none [] [
    ⟨some 1, none, .v fun s => frozenPtr (s.get 0)⟩,
    ⟨some 2, none, .v fun s => some (.int .i64 0)⟩,
    ⟨some 3, none, .v fun s => some (.nils)⟩] K s := (den_reg hf _ K s).trans (by kernel_rfl)
theorem r1_draw : drawOk (fun g => (ann g).pure) (modeOf (ann 7) (idOf r1)) (frzOf (ann 7) (idOf r1)) (opsOf r1) = true := drawOk_of (an := [0, 0, 2, 6, 0, 16, 62, 127, 255, 0, 1023]) (by kernel_rfl) (by kernel_rfl)
theorem r1_eq (K : List Item) (s : St) : den prog ann 7 (.code r1 :: K) s = mreg prog ann 7 none [] (some 11) [4] [
    ⟨some 6, none, .v fun s => loadA false 1 s.m (globV 0)⟩,
    ⟨some 7, none, .v fun s => idxArr 3 1 (s.get 1) (.int .i64 0)⟩,
    ⟨some 8, none, .v fun s => loadF false 1 (s.get 7)⟩,
    ⟨some 9, none, .v fun s => convInt .i64 (s.get 8)⟩,
    ⟨some 10, none, .v fun s => loadA false 1 s.m (globV 0)⟩,
    ⟨some 11, none, .v fun s => lenSl (s.get 10)⟩,
    ⟨some 12, none, .v fun s => binA prog .rem 3 (s.get 9) (s.get 11)⟩,
    ⟨some 13, none, .v fun s => idxSl 2 (s.get 6) (s.get 12)⟩,
    ⟨some 14, none, .v fun s => loadA true 2 s.m (s.get 13)⟩,
    ⟨some 4, none, .w false (some 9) fun s => newPtr s.m [.int .i64 0, .nils]⟩,
    ⟨none, none, .w false (some 10) fun s => stA true 2 s.m (s.get 4) (s.get 14)⟩] K s := (den_regD hf r1_draw K s).trans (by kernel_rfl)
theorem r2_eq (K : List Item) (s : St) : den prog ann 7 (.code r2 :: K) s = mreg prog ann 7 none [] none [] [
    ⟨some 15, none, .v fun s => idxArr 3 1 (s.get 1) (.int .i64 1)⟩,
    ⟨some 16, none, .v fun s => loadF false 1 (s.get 15)⟩,
    ⟨some 17, none, .v fun s => convInt .i64 (s.get 16)⟩,
    ⟨some 18, none, .v fun s => fieldA 0 (s.get 4)⟩,
    ⟨some 19, none, .v fun s => loadF false 1 (s.get 18)⟩,
    ⟨some 20, none, .v fun s => binA prog .sub 3 (s.get 19) (.int .i64 1)⟩,
    ⟨some 21, none, .v fun s => binA prog .rem 3 (s.get 17) (s.get 20)⟩,
    ⟨some 22, none, .v fun s => binA prog .add 3 (s.get 21) (.int .i64 1)⟩,
    ⟨some 5, none, .v fun s => some (s.get 22)⟩] K s := (den_reg hf _ K s).trans (by kernel_rfl)
theorem k0_eq (K : List Item) (t : List (Nat × AV)) (m : Mem) : den prog ann 7 (.code k0 :: K) ⟨t, 48, m⟩ = L0 (get t 1) (get t 4) (get t 5) m K := den_loop_enter hf (b := l0) (id := 3) (l := [1, 4, 5]) (by kernel_rfl) (by kernel_rfl) (by kernel_rfl) K _
theorem l0_eq (K : List Item) (t : List (Nat × AV)) (m : Mem) : den prog ann 7 (.inLoop l0 :: .inBlock 0 :: K) ⟨t, 48, m⟩ = L0 (get t 1) (get t 4) (get t 5) m K := den_loop_again hf (id := 3) (l := [1, 4, 5]) (by kernel_rfl) (by kernel_rfl) (.inBlock 0 :: K) _
theorem L0_eq (x1 x4 x5 : AV) (m : Mem) (K : List Item) : L0 x1 x4 x5 m K = den prog ann 7 (.code r3 :: .code i0 :: .code k1 :: .inLoop l0 :: .inBlock 0 :: K) ⟨[(1, x1), (4, x4), (5, x5)], 48, m⟩ := den_flat hf (l := [r3, i0, k1]) (by kernel_rfl) _ _
theorem r3_eq (K : List Item) (s : St) : den prog ann 7 (.code r3 :: K) s = mreg prog ann 7 (some [1, 4, 5]) [] none [] [
    ⟨some 23, none, .v fun s => some (s.get 5)⟩,
    ⟨some 24, none, .v fun s => fieldA 0 (s.get 4)⟩,
    ⟨some 25, none, .v fun s => loadF false 1 (s.get 24)⟩,
    ⟨some 26, none, .c 0 (fun s => (.fn 12 [] [])) fun s => [(s.get 23), (s.get 25)]⟩,
    ⟨some 27, none, .v fun s => binA prog .neq 3 (s.get 26) (.int .i64 1)⟩] K s := (den_reg hf _ K s).trans (by kernel_rfl)
theorem i0_eq (K : List Item) (s : St) : den prog ann 7 (.code i0 :: K) s = ifV prog ann 7 27 i0t i0e K s (s.get 27) := den_if hf (by kernel_rfl) K s
theorem i0t_eq (K : List Item) (s : St) : den prog ann 7 (.code i0t :: K) s = den prog ann 7 (K) s := den_flat hf (l := []) (by kernel_rfl) K s
theorem i0e_eq (K : List Item) (s : St) : den prog ann 7 (.code i0e :: K) s = den prog ann 7 (.code (.exit 0) :: K) s := den_flat hf (l := [(.exit 0)]) (by kernel_rfl) K s
theorem k1_eq (K : List Item) (s : St) : den prog ann 7 (.code k1 :: K) s = den prog ann 7 (.code r4 :: .inBlock 1 :: K) s := den_blk hf (b := blkOf k1) (l := [r4]) (by kernel_rfl) (by kernel_rfl) K s
theorem r4_eq (K : List Item) (s : St) : den prog ann 7 (.code r4 :: K) s = mreg prog ann 7 none [] none [] [
    ⟨some 28, none, .v fun s => some (s.get 5)⟩,
    ⟨some 29, none, .v fun s => fieldA 0 (s.get 4)⟩,
    ⟨some 30, none, .v fun s => loadF false 1 (s.get 29)⟩,
    ⟨some 31, none, .v fun s => binA prog .sub 3 (s.get 30) (.int .i64 1)⟩,
    ⟨some 32, none, .v fun s => binA prog .rem 3 (s.get 28) (s.get 31)⟩,
    ⟨some 33, none, .v fun s => binA prog .add 3 (s.get 32) (.int .i64 1)⟩,
    ⟨some 5, none, .v fun s => some (s.get 33)⟩] K s := (den_reg hf _ K s).trans (by kernel_rfl)
theorem r5_draw : drawOk (fun g => (ann g).pure) (modeOf (ann 7) (idOf r5)) (frzOf (ann 7) (idOf r5)) (opsOf r5) = true := drawOk_of (an := [0, 1, 0, 4, 0, 16, 0, 0, 128, 384, 0, 1024, 3968, 8188, 16383, 32767]) (by kernel_rfl) (by kernel_rfl)
theorem r5_eq (K : List Item) (s : St) : den prog ann 7 (.code r5 :: K) s = mreg prog ann 7 (some [1, 4, 5]) [] (some 16) [] [
    ⟨some 34, none, .v fun s => fieldA 0 (s.get 4)⟩,
    ⟨some 35, none, .v fun s => loadF false 1 (s.get 34)⟩,
    ⟨some 36, none, .v fun s => fieldA 0 (s.get 4)⟩,
    ⟨some 37, none, .v fun s => loadF false 1 (s.get 36)⟩,
    ⟨some 38, none, .v fun s => fieldA 1 (s.get 4)⟩,
    ⟨some 39, none, .v fun s => loadF false 1 (s.get 38)⟩,
    ⟨some 40, none, .v fun s => some (s.get 5)⟩,
    ⟨some 41, none, .v fun s => idxArr 3 1 (s.get 1) (.int .i64 2)⟩,
    ⟨some 42, none, .v fun s => loadF false 1 (s.get 41)⟩,
    ⟨some 43, none, .v fun s => convInt .i64 (s.get 42)⟩,
    ⟨some 44, none, .v fun s => fieldA 0 (s.get 4)⟩,
    ⟨some 45, none, .v fun s => loadF false 1 (s.get 44)⟩,
    ⟨some 46, none, .v fun s => binA prog .rem 3 (s.get 43) (s.get 45)⟩,
    ⟨some 47, none, .c 0 (fun s => (.fn 13 [] [])) fun s => [(s.get 37), (s.get 39), (s.get 40), (s.get 46)]⟩,
    ⟨some 2, none, .v fun s => some (s.get 35)⟩,
    ⟨some 3, none, .v fun s => some (s.get 47)⟩] K s := (den_regD hf r5_draw K s).trans (by kernel_rfl)
theorem ret_eq (K : List Item) (s : St) : den prog ann 7 (.code .ret :: K) s = finM true [fun s => some (s.get 2), fun s => some (s.get 3)] s := (den_ret hf K s).trans (by kernel_rfl)
theorem nil_eq (s : St) : den prog ann 7 [] s = finM true [fun s => some (s.get 2), fun s => some (s.get 3)] s := (den_nil hf s).trans (by kernel_rfl)
theorem inBlock_eq (id : Nat) (K : List Item) (s : St) : den prog ann 7 (.inBlock id :: K) s = den prog ann 7 K s := den_inBlock hf id K s
theorem exit_eq (id : Nat) (K : List Item) (s : St) : den prog ann 7 (.code (.exit id) :: K) s = exitV prog ann 7 (exitTo id K) s := den_exitV hf id K s
theorem call_eq (v0 : AV) (m : Mem) (h : closedL [v0] = true) : denC prog ann 7 [v0] m = (den prog ann 7 [.code b] ⟨[(0, v0)], 48, Mem.empty⟩).bind fun r => some (r.1, m) := (denC_pure hf (b := b) (by kernel_rfl) (by kernel_rfl) (by kernel_rfl) h m).trans (by kernel_rfl)
theorem pure_eq : (ann 7).pure = true := by kernel_rfl
attribute [simp] b_eq r0_eq r1_eq r2_eq k0_eq l0_eq r3_eq i0_eq i0t_eq i0e_eq k1_eq r4_eq r5_eq ret_eq nil_eq inBlock_eq exit_eq pure_eq
end l04_made


namespace l04_StrapCounts
/-- pommel/pommellaw04.StrapCounts -/
noncomputable def b : Code := (Tryd.f4.body).getD .skip
theorem hf : prog.funcs[4]? = some Tryd.f4 := by kernel_rfl
noncomputable def r0 : Code := findReg b 0
noncomputable def r1 : Code := findReg b 1
noncomputable def r2 : Code := findReg b 2
noncomputable def i0 : Code := findCond b 0
noncomputable def i0t : Code := thenOf i0
noncomputable def i0e : Code := elseOf i0
noncomputable def r3 : Code := findReg b 3
noncomputable def r4 : Code := findReg b 4
noncomputable def k0 : Code := findBlk b 0
noncomputable def l0 : Code := loopOf k0
noncomputable def L0 (x2 x7 x8 x9 : AV) (m : Mem) (K : List Item) : Option Res := den prog ann 4 (.code l0 :: .inLoop l0 :: .inBlock 0 :: K) ⟨[(2, x2), (7, x7), (8, x8), (9, x9)], 102, m⟩
noncomputable def r5 : Code := findReg b 5
noncomputable def i1 : Code := findCond b 1
noncomputable def i1t : Code := thenOf i1
noncomputable def i1e : Code := elseOf i1
noncomputable def k1 : Code := findBlk b 1
noncomputable def r7 : Code := findReg b 7
noncomputable def i2 : Code := findCond b 2
noncomputable def i2t : Code := thenOf i2
noncomputable def i2e : Code := elseOf i2
noncomputable def r8 : Code := findReg b 8
noncomputable def r6 : Code := findReg b 6
noncomputable def r9 : Code := findReg b 9
noncomputable def r10 : Code := findReg b 10
noncomputable def i3 : Code := findCond b 3
noncomputable def i3t : Code := thenOf i3
noncomputable def i3e : Code := elseOf i3
noncomputable def r11 : Code := findReg b 11
noncomputable def r12 : Code := findReg b 12
noncomputable def i4 : Code := findCond b 4
noncomputable def i4t : Code := thenOf i4
noncomputable def i4e : Code := elseOf i4
noncomputable def r13 : Code := findReg b 13
noncomputable def r14 : Code := findReg b 14
noncomputable def i5 : Code := findCond b 5
noncomputable def i5t : Code := thenOf i5
noncomputable def i5e : Code := elseOf i5
noncomputable def r15 : Code := findReg b 15
noncomputable def r16 : Code := findReg b 16
noncomputable def r17 : Code := findReg b 17
noncomputable def k2 : Code := findBlk b 2
noncomputable def l2 : Code := loopOf k2
noncomputable def L2 (x7 x8 x10 x12 x13 : AV) (m : Mem) (K : List Item) : Option Res := den prog ann 4 (.code l2 :: .inLoop l2 :: .inBlock 2 :: K) ⟨[(7, x7), (8, x8), (10, x10), (12, x12), (13, x13)], 102, m⟩
noncomputable def r18 : Code := findReg b 18
noncomputable def i6 : Code := findCond b 6
noncomputable def i6t : Code := thenOf i6
noncomputable def i6e : Code := elseOf i6
noncomputable def k3 : Code := findBlk b 3
noncomputable def r20 : Code := findReg b 20
noncomputable def r19 : Code := findReg b 19
noncomputable def r21 : Code := findReg b 21
theorem b_eq (K : List Item) (s : St) : den prog ann 4 (.code b :: K) s = den prog ann 4 (.code r0 :: .code r1 :: .code r2 :: .code i0 :: .code r9 :: .code r10 :: .code i3 :: .code r12 :: .code i4 :: .code r14 :: .code i5 :: .code r16 :: .code r17 :: .code k2 :: .code r21 :: .code .ret :: K) s := den_flat hf (l := [r0, r1, r2, i0, r9, r10, i3, r12, i4, r14, i5, r16, r17, k2, r21, .ret]) (by kernel_rfl) K s
theorem r0_eq (K : List Item) (s : St) : den prog ann 4 (.code r0 :: K) s = mreg prog ann 4 none [] none [] [
    ⟨some 3, none, .v fun s => frozenPtr (s.get 0)⟩,
    ⟨some 6, none, .v fun s => some (.bool false)⟩] K s := (den_reg hf _ K s).trans (by kernel_rfl)
theorem r1_eq (K : List Item) (s : St) : den prog ann 4 (.code r1 :: K) s = mreg prog ann 4 none [] none [] [
    ⟨some 15, none, .v fun s => loadF true 3 (s.get 3)⟩,
    ⟨some 16, none, .c 0 (fun s => (.fn 7 [] [])) fun s => [(s.get 15)]⟩,
    ⟨some 14, none, .v fun s => some (s.get 16)⟩,
    ⟨some 17, none, .v fun s => extA (s.get 14) 0⟩,
    ⟨some 18, none, .v fun s => extA (s.get 14) 1⟩,
    ⟨some 7, none, .v fun s => some (s.get 17)⟩,
    ⟨some 8, none, .v fun s => some (s.get 18)⟩] K s := (den_reg hf _ K s).trans (by kernel_rfl)
theorem r2_eq (K : List Item) (s : St) : den prog ann 4 (.code r2 :: K) s = mreg prog ann 4 none [] none [] [
    ⟨some 19, none, .v fun s => some (s.get 2)⟩,
    ⟨some 20, none, .v fun s => binA prog .rem 22 (s.get 19) (.int .u32 2)⟩,
    ⟨some 21, none, .v fun s => binA prog .eql 22 (s.get 20) (.int .u32 1)⟩] K s := (den_reg hf _ K s).trans (by kernel_rfl)
theorem i0_eq (K : List Item) (s : St) : den prog ann 4 (.code i0 :: K) s = ifV prog ann 4 21 i0t i0e K s (s.get 21) := den_if hf (by kernel_rfl) K s
theorem i0t_eq (K : List Item) (s : St) : den prog ann 4 (.code i0t :: K) s = den prog ann 4 (.code r3 :: .code r4 :: .code k0 :: K) s := den_flat hf (l := [r3, r4, k0]) (by kernel_rfl) K s
theorem r3_eq (K : List Item) (s : St) : den prog ann 4 (.code r3 :: K) s = mreg prog ann 4 none [] none [] [
    ⟨some 22, none, .v fun s => some (s.get 1)⟩,
    ⟨some 23, none, .v fun s => convInt .i64 (s.get 22)⟩,
    ⟨some 24, none, .v fun s => binA prog .rem 3 (s.get 23) (.int .i64 30)⟩,
    ⟨some 25, none, .v fun s => binA prog .add 3 (s.get 24) (.int .i64 2)⟩,
    ⟨some 7, none, .v fun s => some (s.get 25)⟩,
    ⟨some 8, none, .v fun s => some (.nils)⟩] K s := (den_reg hf _ K s).trans (by kernel_rfl)
theorem r4_eq (K : List Item) (s : St) : den prog ann 4 (.code r4 :: K) s = mreg prog ann 4 none [] none [] [
    ⟨some 9, none, .v fun s => some (.int .i64 0)⟩] K s := (den_reg hf _ K s).trans (by kernel_rfl)
theorem k0_eq (K : List Item) (t : List (Nat × AV)) (m : Mem) : den prog ann 4 (.code k0 :: K) ⟨t, 102, m⟩ = L0 (get t 2) (get t 7) (get t 8) (get t 9) m K := den_loop_enter hf (b := l0) (id := 5) (l := [2, 7, 8, 9]) (by kernel_rfl) (by kernel_rfl) (by kernel_rfl) K _
theorem l0_eq (K : List Item) (t : List (Nat × AV)) (m : Mem) : den prog ann 4 (.inLoop l0 :: .inBlock 0 :: K) ⟨t, 102, m⟩ = L0 (get t 2) (get t 7) (get t 8) (get t 9) m K := den_loop_again hf (id := 5) (l := [2, 7, 8, 9]) (by kernel_rfl) (by kernel_rfl) (.inBlock 0 :: K) _
theorem L0_eq (x2 x7 x8 x9 : AV) (m : Mem) (K : List Item) : L0 x2 x7 x8 x9 m K = den prog ann 4 (.code r5 :: .code i1 :: .code k1 :: .code r6 :: .inLoop l0 :: .inBlock 0 :: K) ⟨[(2, x2), (7, x7), (8, x8), (9, x9)], 102, m⟩ := den_flat hf (l := [r5, i1, k1, r6]) (by kernel_rfl) _ _
theorem r5_eq (K : List Item) (s : St) : den prog ann 4 (.code r5 :: K) s = mreg prog ann 4 (some [2, 7, 8, 9]) [] none [] [
    ⟨some 26, none, .v fun s => some (s.get 9)⟩,
    ⟨some 27, none, .v fun s => some (s.get 7)⟩,
    ⟨some 28, none, .v fun s => binA prog .lss 3 (s.get 26) (s.get 27)⟩] K s := (den_reg hf _ K s).trans (by kernel_rfl)
theorem i1_eq (K : List Item) (s : St) : den prog ann 4 (.code i1 :: K) s = ifV prog ann 4 28 i1t i1e K s (s.get 28) := den_if hf (by kernel_rfl) K s
theorem i1t_eq (K : List Item) (s : St) : den prog ann 4 (.code i1t :: K) s = den prog ann 4 (K) s := den_flat hf (l := []) (by kernel_rfl) K s
theorem i1e_eq (K : List Item) (s : St) : den prog ann 4 (.code i1e :: K) s = den prog ann 4 (.code (.exit 0) :: K) s := den_flat hf (l := [(.exit 0)]) (by kernel_rfl) K s
theorem k1_eq (K : List Item) (s : St) : den prog ann 4 (.code k1 :: K) s = den prog ann 4 (.code r7 :: .code i2 :: .inBlock 1 :: K) s := den_blk hf (b := blkOf k1) (l := [r7, i2]) (by kernel_rfl) (by kernel_rfl) K s
theorem r7_eq (K : List Item) (s : St) : den prog ann 4 (.code r7 :: K) s = mreg prog ann 4 none [] none [] [
    ⟨some 31, none, .v fun s => some (s.get 2)⟩,
    ⟨some 32, none, .v fun s => some (s.get 9)⟩,
    ⟨some 33, none, .v fun s => binA prog .shr 22 (s.get 31) (s.get 32)⟩,
    ⟨some 34, none, .v fun s => binA prog .and 22 (s.get 33) (.int .u32 1)⟩,
    ⟨some 35, none, .v fun s => binA prog .eql 22 (s.get 34) (.int .u32 1)⟩] K s := (den_reg hf _ K s).trans (by kernel_rfl)
theorem i2_eq (K : List Item) (s : St) : den prog ann 4 (.code i2 :: K) s = ifV prog ann 4 35 i2t i2e K s (s.get 35) := den_if hf (by kernel_rfl) K s
theorem i2t_eq (K : List Item) (s : St) : den prog ann 4 (.code i2t :: K) s = den prog ann 4 (.code r8 :: K) s := den_flat hf (l := [r8]) (by kernel_rfl) K s
theorem r8_eq (K : List Item) (s : St) : den prog ann 4 (.code r8 :: K) s = mreg prog ann 4 none [] none [] [
    ⟨some 36, none, .v fun s => some (s.get 8)⟩,
    ⟨some 37, none, .v fun s => some (s.get 9)⟩,
    ⟨some 38, none, .v fun s => bslF 1 (bslA 1 1 [.int .i64 0] [(0, (s.get 37))])⟩,
    ⟨some 39, none, .w false none fun s => appendA 1 8 s.m (s.get 36) (s.get 38)⟩,
    ⟨some 8, none, .v fun s => some (s.get 39)⟩] K s := (den_reg hf _ K s).trans (by kernel_rfl)
theorem i2e_eq (K : List Item) (s : St) : den prog ann 4 (.code i2e :: K) s = den prog ann 4 (K) s := den_flat hf (l := []) (by kernel_rfl) K s
theorem r6_eq (K : List Item) (s : St) : den prog ann 4 (.code r6 :: K) s = mreg prog ann 4 (some [2, 7, 8, 9]) [] none [] [
    ⟨some 29, none, .v fun s => some (s.get 9)⟩,
    ⟨some 30, none, .v fun s => binA prog .add 3 (s.get 29) (.int .i64 1)⟩,
    ⟨some 9, none, .v fun s => some (s.get 30)⟩] K s := (den_reg hf _ K s).trans (by kernel_rfl)
theorem i0e_eq (K : List Item) (s : St) : den prog ann 4 (.code i0e :: K) s = den prog ann 4 (K) s := den_flat hf (l := []) (by kernel_rfl) K s
theorem r9_eq (K : List Item) (s : St) : den prog ann 4 (.code r9 :: K) s = mreg prog ann 4 (some [2, 7, 8]) [] none [] [
    ⟨some 41, none, .v fun s => some (s.get 7)⟩,
    ⟨some 42, none, .v fun s => some (s.get 8)⟩,
    ⟨some 43, none, .c 0 (fun s => (.fn 10 [] [])) fun s => [(s.get 41), (s.get 42)]⟩,
    ⟨some 40, none, .v fun s => some (s.get 43)⟩,
    ⟨some 44, none, .v fun s => extA (s.get 40) 0⟩,
    ⟨some 45, none, .v fun s => extA (s.get 40) 1⟩,
    ⟨some 10, none, .v fun s => some (s.get 44)⟩,
    ⟨some 11, none, .v fun s => some (s.get 45)⟩] K s := (den_reg hf _ K s).trans (by kernel_rfl)
theorem r10_eq (K : List Item) (s : St) : den prog ann 4 (.code r10 :: K) s = mreg prog ann 4 none [] none [] [
    ⟨some 46, none, .v fun s => some (s.get 2)⟩,
    ⟨some 47, none, .v fun s => binA prog .rem 22 (s.get 46) (.int .u32 2)⟩,
    ⟨some 48, none, .v fun s => binA prog .eql 22 (s.get 47) (.int .u32 0)⟩,
    ⟨some 49, none, .v fun s => some (s.get 48)⟩,
    ⟨some 50, some (49, true), .v fun s => some (s.get 11)⟩,
    ⟨some 51, some (49, true), .v fun s => binA prog .neq 27 (s.get 50) (.int .i64 0)⟩,
    ⟨some 52, none, .v fun s => pickA (s.get 49) (s.get 51) (.bool false)⟩,
    ⟨some 53, none, .v fun s => some (s.get 52)⟩,
    ⟨some 54, some (53, false), .v fun s => some (s.get 11)⟩,
    ⟨some 55, some (53, false), .v fun s => binA prog .neq 27 (s.get 54) (.int .i64 0)⟩,
    ⟨some 56, some (53, false), .v fun s => some (s.get 55)⟩,
    ⟨some 57, some (56, true), .v fun s => some (s.get 11)⟩,
    ⟨some 58, some (56, true), .v fun s => binA prog .neq 27 (s.get 57) (.int .i64 5)⟩,
    ⟨some 59, some (53, false), .v fun s => pickA (s.get 56) (s.get 58) (.bool false)⟩,
    ⟨some 60, none, .v fun s => pickA (s.get 53) (.bool true) (s.get 59)⟩,
    ⟨some 61, none, .v fun s => some (s.get 60)⟩,
    ⟨some 62, some (61, false), .c 0 (fun s => (.fn 9 [] [])) fun s => []⟩,
    ⟨some 63, some (61, false), .v fun s => unA .not (s.get 62)⟩,
    ⟨some 64, none, .v fun s => pickA (s.get 61) (.bool true) (s.get 63)⟩] K s := (den_reg hf _ K s).trans (by kernel_rfl)
theorem i3_eq (K : List Item) (s : St) : den prog ann 4 (.code i3 :: K) s = ifV prog ann 4 64 i3t i3e K s (s.get 64) := den_if hf (by kernel_rfl) K s
theorem i3t_eq (K : List Item) (s : St) : den prog ann 4 (.code i3t :: K) s = den prog ann 4 (.code r11 :: .code .ret :: K) s := den_flat hf (l := [r11, .ret]) (by kernel_rfl) K s
theorem r11_eq (K : List Item) (s : St) : den prog ann 4 (.code r11 :: K) s = mreg prog ann 4 none [] none [] [
    ⟨some 6, none, .v fun s => some (.bool false)⟩] K s := (den_reg hf _ K s).trans (by kernel_rfl)
theorem i3e_eq (K : List Item) (s : St) : den prog ann 4 (.code i3e :: K) s = den prog ann 4 (K) s := den_flat hf (l := []) (by kernel_rfl) K s
theorem r12_eq (K : List Item) (s : St) : den prog ann 4 (.code r12 :: K) s = mreg prog ann 4 none [] none [] [
    ⟨some 65, none, .v fun s => some (s.get 11)⟩,
    ⟨some 66, none, .v fun s => binA prog .neq 27 (s.get 65) (.int .i64 0)⟩] K s := (den_reg hf _ K s).trans (by kernel_rfl)
theorem i4_eq (K : List Item) (s : St) : den prog ann 4 (.code i4 :: K) s = ifV prog ann 4 66 i4t i4e K s (s.get 66) := den_if hf (by kernel_rfl) K s
theorem i4t_eq (K : List Item) (s : St) : den prog ann 4 (.code i4t :: K) s = den prog ann 4 (.code r13 :: .code .ret :: K) s := den_flat hf (l := [r13, .ret]) (by kernel_rfl) K s
theorem r13_eq (K : List Item) (s : St) : den prog ann 4 (.code r13 :: K) s = mreg prog ann 4 none [] none [] [
    ⟨some 67, none, .v fun s => some (s.get 10)⟩,
    ⟨some 68, none, .v fun s => binA prog .eql 3 (s.get 67) (.int .i64 0)⟩,
    ⟨some 6, none, .v fun s => some (s.get 68)⟩] K s := (den_reg hf _ K s).trans (by kernel_rfl)
theorem i4e_eq (K : List Item) (s : St) : den prog ann 4 (.code i4e :: K) s = den prog ann 4 (K) s := den_flat hf (l := []) (by kernel_rfl) K s
theorem r14_eq (K : List Item) (s : St) : den prog ann 4 (.code r14 :: K) s = mreg prog ann 4 none [] none [] [
    ⟨some 69, none, .v fun s => some (s.get 8)⟩,
    ⟨some 70, none, .v fun s => lenSl (s.get 69)⟩,
    ⟨some 71, none, .v fun s => some (s.get 8)⟩,
    ⟨some 72, none, .v fun s => lenSl (s.get 71)⟩,
    ⟨some 73, none, .v fun s => binA prog .sub 3 (s.get 72) (.int .i64 1)⟩,
    ⟨some 74, none, .v fun s => binA prog .mul 3 (s.get 70) (s.get 73)⟩,
    ⟨some 75, none, .v fun s => some (s.get 10)⟩,
    ⟨some 76, none, .v fun s => some (s.get 7)⟩,
    ⟨some 77, none, .v fun s => binA prog .sub 3 (s.get 76) (.int .i64 1)⟩,
    ⟨some 78, none, .v fun s => binA prog .mul 3 (s.get 75) (s.get 77)⟩,
    ⟨some 79, none, .v fun s => binA prog .neq 3 (s.get 74) (s.get 78)⟩] K s := (den_reg hf _ K s).trans (by kernel_rfl)
theorem i5_eq (K : List Item) (s : St) : den prog ann 4 (.code i5 :: K) s = ifV prog ann 4 79 i5t i5e K s (s.get 79) := den_if hf (by kernel_rfl) K s
theorem i5t_eq (K : List Item) (s : St) : den prog ann 4 (.code i5t :: K) s = den prog ann 4 (.code r15 :: .code .ret :: K) s := den_flat hf (l := [r15, .ret]) (by kernel_rfl) K s
theorem r15_eq (K : List Item) (s : St) : den prog ann 4 (.code r15 :: K) s = mreg prog ann 4 none [] none [] [
    ⟨some 6, none, .v fun s => some (.bool false)⟩] K s := (den_reg hf _ K s).trans (by kernel_rfl)
theorem i5e_eq (K : List Item) (s : St) : den prog ann 4 (.code i5e :: K) s = den prog ann 4 (K) s := den_flat hf (l := []) (by kernel_rfl) K s
theorem r16_eq (K : List Item) (s : St) : den prog ann 4 (.code r16 :: K) s = mreg prog ann 4 none [] none [] [
    ⟨some 12, none, .v fun s => some (.bool false)⟩] K s := (den_reg hf _ K s).trans (by kernel_rfl)
theorem r17_eq (K : List Item) (s : St) : den prog ann 4 (.code r17 :: K) s = mreg prog ann 4 none [] none [] [
    ⟨some 13, none, .v fun s => some (.int .i64 0)⟩] K s := (den_reg hf _ K s).trans (by kernel_rfl)
theorem k2_eq (K : List Item) (t : List (Nat × AV)) (m : Mem) : den prog ann 4 (.code k2 :: K) ⟨t, 102, m⟩ = L2 (get t 7) (get t 8) (get t 10) (get t 12) (get t 13) m K := den_loop_enter hf (b := l2) (id := 18) (l := [7, 8, 10, 12, 13]) (by kernel_rfl) (by kernel_rfl) (by kernel_rfl) K _
theorem l2_eq (K : List Item) (t : List (Nat × AV)) (m : Mem) : den prog ann 4 (.inLoop l2 :: .inBlock 2 :: K) ⟨t, 102, m⟩ = L2 (get t 7) (get t 8) (get t 10) (get t 12) (get t 13) m K := den_loop_again hf (id := 18) (l := [7, 8, 10, 12, 13]) (by kernel_rfl) (by kernel_rfl) (.inBlock 2 :: K) _
theorem L2_eq (x7 x8 x10 x12 x13 : AV) (m : Mem) (K : List Item) : L2 x7 x8 x10 x12 x13 m K = den prog ann 4 (.code r18 :: .code i6 :: .code k3 :: .code r19 :: .inLoop l2 :: .inBlock 2 :: K) ⟨[(7, x7), (8, x8), (10, x10), (12, x12), (13, x13)], 102, m⟩ := den_flat hf (l := [r18, i6, k3, r19]) (by kernel_rfl) _ _
theorem r18_eq (K : List Item) (s : St) : den prog ann 4 (.code r18 :: K) s = mreg prog ann 4 (some [7, 8, 10, 12, 13]) [] none [] [
    ⟨some 80, none, .v fun s => some (s.get 13)⟩,
    ⟨some 81, none, .v fun s => some (s.get 7)⟩,
    ⟨some 82, none, .v fun s => binA prog .leq 3 (s.get 80) (s.get 81)⟩] K s := (den_reg hf _ K s).trans (by kernel_rfl)
theorem i6_eq (K : List Item) (s : St) : den prog ann 4 (.code i6 :: K) s = ifV prog ann 4 82 i6t i6e K s (s.get 82) := den_if hf (by kernel_rfl) K s
theorem i6t_eq (K : List Item) (s : St) : den prog ann 4 (.code i6t :: K) s = den prog ann 4 (K) s := den_flat hf (l := []) (by kernel_rfl) K s
theorem i6e_eq (K : List Item) (s : St) : den prog ann 4 (.code i6e :: K) s = den prog ann 4 (.code (.exit 2) :: K) s := den_flat hf (l := [(.exit 2)]) (by kernel_rfl) K s
theorem k3_eq (K : List Item) (s : St) : den prog ann 4 (.code k3 :: K) s = den prog ann 4 (.code r20 :: .inBlock 3 :: K) s := den_blk hf (b := blkOf k3) (l := [r20]) (by kernel_rfl) (by kernel_rfl) K s
theorem r20_eq (K : List Item) (s : St) : den prog ann 4 (.code r20 :: K) s = mreg prog ann 4 none [] none [] [
    ⟨some 85, none, .v fun s => some (s.get 12)⟩,
    ⟨some 86, none, .v fun s => some (s.get 85)⟩,
    ⟨some 87, some (86, false), .v fun s => some (s.get 13)⟩,
    ⟨some 88, some (86, false), .v fun s => some (s.get 13)⟩,
    ⟨some 89, some (86, false), .v fun s => binA prog .mul 3 (s.get 87) (s.get 88)⟩,
    ⟨some 90, some (86, false), .v fun s => some (s.get 8)⟩,
    ⟨some 91, some (86, false), .v fun s => lenSl (s.get 90)⟩,
    ⟨some 92, some (86, false), .v fun s => some (s.get 10)⟩,
    ⟨some 93, some (86, false), .v fun s => binA prog .sub 3 (s.get 91) (s.get 92)⟩,
    ⟨some 94, some (86, false), .v fun s => binA prog .eql 3 (s.get 89) (s.get 93)⟩,
    ⟨some 95, none, .v fun s => pickA (s.get 86) (.bool true) (s.get 94)⟩,
    ⟨some 12, none, .v fun s => some (s.get 95)⟩] K s := (den_reg hf _ K s).trans (by kernel_rfl)
theorem r19_eq (K : List Item) (s : St) : den prog ann 4 (.code r19 :: K) s = mreg prog ann 4 (some [7, 8, 10, 12, 13]) [] none [] [
    ⟨some 83, none, .v fun s => some (s.get 13)⟩,
    ⟨some 84, none, .v fun s => binA prog .add 3 (s.get 83) (.int .i64 1)⟩,
    ⟨some 13, none, .v fun s => some (s.get 84)⟩] K s := (den_reg hf _ K s).trans (by kernel_rfl)
theorem r21_eq (K : List Item) (s : St) : den prog ann 4 (.code r21 :: K) s = mreg prog ann 4 (some [7, 12]) [] none [] [
    ⟨some 96, none, .v fun s => some (s.get 7)⟩,
    ⟨some 97, none, .v fun s => binA prog .rem 3 (s.get 96) (.int .i64 2)⟩,
    ⟨some 98, none, .v fun s => binA prog .eql 3 (s.get 97) (.int .i64 1)⟩,
    ⟨some 99, none, .v fun s => some (s.get 98)⟩,
    ⟨some 100, some (99, false), .v fun s => some (s.get 12)⟩,
    ⟨some 101, none, .v fun s => pickA (s.get 99) (.bool true) (s.get 100)⟩,
    ⟨some 6, none, .v fun s => some (s.get 101)⟩] K s := (den_reg hf _ K s).trans (by kernel_rfl)
theorem ret_eq (K : List Item) (s : St) : den prog ann 4 (.code .ret :: K) s = finM true [fun s => some (s.get 6)] s := (den_ret hf K s).trans (by kernel_rfl)
theorem nil_eq (s : St) : den prog ann 4 [] s = finM true [fun s => some (s.get 6)] s := (den_nil hf s).trans (by kernel_rfl)
theorem inBlock_eq (id : Nat) (K : List Item) (s : St) : den prog ann 4 (.inBlock id :: K) s = den prog ann 4 K s := den_inBlock hf id K s
theorem exit_eq (id : Nat) (K : List Item) (s : St) : den prog ann 4 (.code (.exit id) :: K) s = exitV prog ann 4 (exitTo id K) s := den_exitV hf id K s
theorem call_eq (v0 v1 v2 : AV) (m : Mem) (h : closedL [v0, v1, v2] = true) : denC prog ann 4 [v0, v1, v2] m = (den prog ann 4 [.code b] ⟨[(0, v0), (1, v1), (2, v2)], 102, Mem.empty⟩).bind fun r => some (r.1, m) := (denC_pure hf (b := b) (by kernel_rfl) (by kernel_rfl) (by kernel_rfl) h m).trans (by kernel_rfl)
theorem pure_eq : (ann 4).pure = true := by kernel_rfl
attribute [simp] b_eq r0_eq r1_eq r2_eq i0_eq i0t_eq r3_eq r4_eq k0_eq l0_eq r5_eq i1_eq i1t_eq i1e_eq k1_eq r7_eq i2_eq i2t_eq r8_eq i2e_eq r6_eq i0e_eq r9_eq r10_eq i3_eq i3t_eq r11_eq i3e_eq r12_eq i4_eq i4t_eq r13_eq i4e_eq r14_eq i5_eq i5t_eq r15_eq i5e_eq r16_eq r17_eq k2_eq l2_eq r18_eq i6_eq i6t_eq i6e_eq k3_eq r20_eq r19_eq r21_eq ret_eq nil_eq inBlock_eq exit_eq pure_eq
end l04_StrapCounts


end Go.Proofs.YtofceaeboboflaaDoor

/-
  STRAPS: the even round straps of the laws' table, multiplied and moved. Conditions: none.
-/
namespace Go.Proofs.YtofceaeboboflaaDoor
open Go.AM
open Go.Proofs.Tryd (prog)
set_option linter.all false
set_option maxRecDepth 100000
set_option maxHeartbeats 8000000

def tabV (q : Nat) : Nat := [7, 11, 13, 15, 21, 31, 19, 4, 6, 23].getD q 7
def tabL (q : Nat) : List Int := [[0, 1, 3], [1, 3, 4, 5, 9], [0, 1, 3, 9], [0, 1, 2, 4, 5, 8, 10], [3, 6, 7, 12, 14], [1, 5, 11, 24, 25, 27], [1, 4, 5, 6, 7, 9, 11, 16, 17], [0, 1, 2], [2], [1, 2, 3, 4, 6, 8, 9, 12, 13, 16, 18]].getD q [0, 1, 3]

@[simp] theorem globV0 : globV 0 = .fptr [.fsl false 10 evenCs] := rfl
theorem even_drop : ∀ q : Nat, q < 10 → ∃ r, evenCs.drop (q * 2) = .int .i64 (tabV q : Nat) :: .fsl false (tabL q).length (ints (tabL q)) :: r
  | 0, _ => ⟨_, rfl⟩ | 1, _ => ⟨_, rfl⟩ | 2, _ => ⟨_, rfl⟩ | 3, _ => ⟨_, rfl⟩ | 4, _ => ⟨_, rfl⟩
  | 5, _ => ⟨_, rfl⟩ | 6, _ => ⟨_, rfl⟩ | 7, _ => ⟨_, rfl⟩ | 8, _ => ⟨_, rfl⟩ | 9, _ => ⟨_, rfl⟩
  | _ + 10, h => absurd h (by omega)
theorem tab_rng : ∀ q : Nat, q < 10 → 4 ≤ tabV q ∧ tabV q ≤ 31 ∧ 0 < (tabL q).length ∧ (tabL q).length < tabV q ∧ (List.range' 0 (tabL q).length).all (rOk (tabV q) (tabL q)) = true
  | 0, _ => by decide | 1, _ => by decide | 2, _ => by decide | 3, _ => by decide | 4, _ => by decide
  | 5, _ => by decide | 6, _ => by decide | 7, _ => by decide | 8, _ => by decide | 9, _ => by decide
  | _ + 10, h => absurd h (by omega)
theorem tab_ring {q : Nat} (h : q < 10) : RingOk (tabV q) (tabL q) := by
  obtain ⟨h1, h2, h3, h4, h5⟩ := tab_rng q h
  exact (rOk_ring (by omega) (by omega)).2 h5

theorem made_end {v t : Nat} {l : List Int} {a b c : Int} (s : RingOk v l) (ht : t < v) (hg : Nat.gcd t v = 1) (hc : 0 ≤ c ∧ c ≤ 255) (m : Mem) :
    l04_made.L0 (.fptr [.int .u8 a, .int .u8 b, .int .u8 c]) (.fptr [.int .i64 v, .fsl false l.length (ints l)]) (.int .i64 t) m [.code l04_made.r5, .code .ret] =
      some (.tup [.int .i64 v, .fsl false l.length (ints (mvL v t (c % v) l))], Mem.empty) := by
  have hv2 := s.v2
  have hv31 := s.v31
  have hfew := s.few
  have hv : IsInts (.fsl false l.length (ints l)) l := .inr ⟨false, rfl⟩
  have hgs := fun m => gcd_spec t v m
  rw [hg] at hgs
  have hwb : IntKind.wrap .i64 c = c := wrap_id (by omega) (by omega)
  have he : c.tmod (v : Int) = c % v := Int.tmod_eq_emod_of_nonneg hc.1
  have p0 : 0 ≤ c % (v : Int) := Int.emod_nonneg _ (by omega)
  have p1 : c % (v : Int) < v := Int.emod_lt_of_pos _ (by omega)
  generalize c % (v : Int) = d at *
  have hwe : IntKind.wrap .i64 d = d := wrap_id (by omega) (by omega)
  have htn := fun m => turned_spec (v := v) (t := (t : Int)) (s := d) hv hfew s.rng31 (by omega) (by omega) (by omega) m
  rw [tur_mv s hg p0, mvL_len] at htn
  rw [l04_made.L0_eq]
  simp [show ¬ v = 0 by omega, hgs, hwb, he, hwe, htn]
  done
theorem made_loop {v : Nat} {l : List Int} {a b c : Int} (s : RingOk v l) (hc : 0 ≤ c ∧ c ≤ 255) : ∀ (k t : Nat) (m : Mem), t + k + 1 = v → 1 ≤ t →
    ∃ t' : Nat, t' < v ∧ Nat.gcd t' v = 1 ∧ l04_made.L0 (.fptr [.int .u8 a, .int .u8 b, .int .u8 c]) (.fptr [.int .i64 v, .fsl false l.length (ints l)]) (.int .i64 t) m [.code l04_made.r5, .code .ret] =
      some (.tup [.int .i64 v, .fsl false l.length (ints (mvL v t' (c % v) l))], Mem.empty) := by
  intro k
  have hv2 := s.v2
  have hv31 := s.v31
  induction k with
  | zero =>
    intro t m h1 h2
    have e : t = v - 1 := by omega
    subst e
    exact ⟨_, by omega, gcd_pred (by omega) (by omega), made_end s (by omega) (gcd_pred (by omega) (by omega)) hc m⟩
  | succ k ih =>
    intro t m h1 h2
    by_cases hg : Nat.gcd t v = 1
    · exact ⟨t, by omega, hg, made_end s (by omega) hg hc m⟩
    · have hg' : ¬ ((Nat.gcd t v : Nat) : Int) = 1 := by omega
      have hgs := fun m => gcd_spec t v m
      have hw1 : IntKind.wrap .i64 ((v : Int) - 1) = (v : Int) - 1 := wrap_id (by omega) (by omega)
      have hne : ¬ (v : Int) - 1 = 0 := by omega
      have he : (t : Int).tmod ((v : Int) - 1) = t := Int.tmod_eq_of_lt (by omega) (by omega)
      have hw2 : IntKind.wrap .i64 ((t : Int) + 1) = (t : Int) + 1 := wrap_id (by omega) (by omega)
      obtain ⟨t', q1, q2, st⟩ := ih (t + 1) m (by omega) (by omega)
      simp only [Int.natCast_add, Int.cast_ofNat_Int] at st
      refine ⟨t', q1, q2, ?_⟩
      rw [← st, l04_made.L0_eq]
      simp [hgs, hg', hg, hw1, hne, he, hw2]
      done
/-- What 'made' hands back: a set of the table, multiplied and moved. -/
theorem made_spec {a b c : Int} (ha : 0 ≤ a ∧ a ≤ 255) (hb : 0 ≤ b ∧ b ≤ 255) (hc : 0 ≤ c ∧ c ≤ 255) : ∃ q : Nat, q < 10 ∧ ∃ o, Orb (tabV q) (tabL q) o ∧ ∀ m,
    denC prog ann 7 [.agg [.int .u8 a, .int .u8 b, .int .u8 c]] m = some (.tup [.int .i64 (tabV q), .fsl false o.length (ints o)], m) := by
  have hwa : IntKind.wrap .i64 a = a := wrap_id (by omega) (by omega)
  have hwb : IntKind.wrap .i64 b = b := wrap_id (by omega) (by omega)
  have he0 : a.tmod 10 = a % 10 := Int.tmod_eq_emod_of_nonneg ha.1
  obtain ⟨q, hq⟩ : ∃ q : Nat, a % 10 = q := ⟨(a % 10).toNat, by omega⟩
  have hq10 : q < 10 := by omega
  obtain ⟨r, hr⟩ := even_drop q hq10
  obtain ⟨g1, g2, g3, g4, g5⟩ := tab_rng q hq10
  have s := tab_ring hq10
  generalize hvv : tabV q = v at *
  generalize hll : tabL q = l at *
  have hw1 : IntKind.wrap .i64 ((v : Int) - 1) = (v : Int) - 1 := wrap_id (by omega) (by omega)
  have hne : ¬ (v : Int) - 1 = 0 := by omega
  have he1 : b.tmod ((v : Int) - 1) = b % ((v : Int) - 1) := Int.tmod_eq_emod_of_nonneg hb.1
  have p0 : 0 ≤ b % ((v : Int) - 1) := Int.emod_nonneg _ (by omega)
  have p1 : b % ((v : Int) - 1) < (v : Int) - 1 := Int.emod_lt_of_pos _ (by omega)
  obtain ⟨t, ht⟩ : ∃ t : Nat, b % ((v : Int) - 1) + 1 = t := ⟨(b % ((v : Int) - 1) + 1).toNat, by omega⟩
  have hwt : IntKind.wrap .i64 (t : Int) = t := wrap_id (by omega) (by omega)
  have p2 : 0 ≤ c % (v : Int) := Int.emod_nonneg _ (by omega)
  have p3 : c % (v : Int) < v := Int.emod_lt_of_pos _ (by omega)
  have lp := made_loop (a := a) (b := b) s hc (v - 1 - t) t
  have hx : ∃ t' : Nat, t' < v ∧ Nat.gcd t' v = 1 ∧ ∀ m, denC prog ann 7 [.agg [.int .u8 a, .int .u8 b, .int .u8 c]] m = some (.tup [.int .i64 v, .fsl false l.length (ints (mvL v t' (c % v) l))], m) := by
    obtain ⟨t', q1, q2, lp0⟩ := lp { h := upd Mem.empty.h 9 none, nx := 11 } (by omega) (by omega)
    refine ⟨t', q1, q2, fun m => ?_⟩
    rw [l04_made.call_eq _ _ (by simp)]
    simp [hwa, he0, hq, hq10, hr, hwb, hw1, hne, he1, ht, hwt, lp0]
    done
  obtain ⟨t', q1, q2, h⟩ := hx
  refine ⟨q, hq10, ?_⟩
  have hl := mvL_len v t' (c % v) l
  rw [hvv, hll]
  exact ⟨mvL v t' (c % v) l, ⟨t', c % v, by omega, by omega, p2, p3, rfl⟩, fun m => by rw [h, hl]⟩
end Go.Proofs.YtofceaeboboflaaDoor

/-
  STRAPS: the places that are not in a set, and how they are multiplied and moved. Conditions: none.
-/
namespace Go.Proofs.YtofceaeboboflaaDoor
open Go.AM
set_option linter.all false
set_option maxRecDepth 100000
set_option maxHeartbeats 4000000

def compl (v : Nat) (l : List Int) : List Int := (rng v).filter fun x => decide (x ∉ l)
/-- The code's list of the places that are not in a set. -/
def cmF (bs : List Bool) (k p : Nat) : List Int := ((List.range' p k).filter fun t => !bnth bs t).map fun t : Nat => (t : Int)
theorem ring_ge {v : Int} {l : List Int} (r : RingOk v l) : ∀ i : Nat, i < l.length → (i : Int) ≤ nth l i
  | 0, h => (r.rng 0 h).1
  | i + 1, h => by
    have h1 := ring_ge r i (by omega)
    have h2 := r.lt (i := i) (j := i + 1) (by omega) h
    omega
theorem ring_le {v : Int} {l : List Int} (r : RingOk v l) : (l.length : Int) ≤ v := by
  have hp := r.pos
  have h1 := ring_ge r (l.length - 1) (by omega)
  have h2 := r.rng (l.length - 1) (by omega)
  omega
end Go.Proofs.YtofceaeboboflaaDoor

/-
  STRAPS (15): the differences in plain terms: their sum, and that they grow with the list. Conditions: none.
-/
namespace Go.Proofs.YtofceaeboboflaaDoor
open Go.AM
set_option linter.all false
set_option maxRecDepth 10000
set_option maxHeartbeats 2000000

def sumL : List Int → Int
  | [] => 0
  | a :: l => a + sumL l
/-- How often a difference comes. -/
def dHit (l : List Int) (v : Int) (g i q : Nat) : Bool := !decide (i = q) && decide ((nth l i - nth l q + v).tmod v = g)
def dCnt (l : List Int) (v : Int) (g n : Nat) : Nat → Nat → Nat
  | 0, _ => 0
  | k + 1, i => (List.range' 0 n).countP (dHit l v g i) + dCnt l v g n k (i + 1)
def gRound (v often : Int) (l : List Int) : Bool := decide (maxL (diffs v l) ≤ often)
def pRound (v : Nat) (often : Int) (l : List Int) : Bool := eqA (diffs v l) (v - 1) 1 && decide (nth (diffs v l) 1 = often)
end Go.Proofs.YtofceaeboboflaaDoor

/-
  STRAPS (16): the two searches for a round strap find the same. Conditions: none.
-/
namespace Go.Proofs.YtofceaeboboflaaDoor
open Go.AM
set_option linter.all false
set_option maxRecDepth 10000
set_option maxHeartbeats 2000000

theorem StrapOk.ge {l : List Int} (s : StrapOk l) : ∀ {i : Nat}, i < l.length → (i : Int) ≤ nth l i
  | 0, _ => by rw [s.zero]; omega
  | i + 1, h => by
    have := s.ge (i := i) (by omega)
    have := s.asc i h
    omega
theorem StrapOk.ring {l : List Int} (s : StrapOk l) {v : Nat} (hv : 2 ≤ v ∧ v ≤ 31) (ht : Go.Proofs.YtofceaeboboflaaDoor.top l ≤ (v : Int) - 1) : RingOk v l := by
  have hpos := s.pos
  have hge := s.ge (i := l.length - 1) (by omega)
  unfold Go.Proofs.YtofceaeboboflaaDoor.top at ht
  refine ⟨by omega, by omega, hpos, by omega, fun i hi => ⟨s.nonneg hi, ?_⟩, fun i hi => s.asc i hi⟩
  have := s.le (show i ≤ l.length - 1 by omega) (by omega)
  omega
def rrF (v : Nat) (often : Int) : Nat → List Int → Option (List Int)
  | 0, l => if pRound v often l = true then some l else none
  | f + 1, l => firstF (rrF v often f) l ((v : Int) - 1 - top l).toNat (top l + 1)
end Go.Proofs.YtofceaeboboflaaDoor

/-
  STRAPS (17): Round, and the specification's. Conditions: none.
-/
namespace Go.Proofs.YtofceaeboboflaaDoor
open Go.AM
open Go.Proofs.Tryd (prog)
set_option linter.all false
set_option maxRecDepth 100000
set_option maxHeartbeats 4000000

theorem ResV.deep {r : Option (List Int)} {w : AV} (h : ResV r w) (hp : Nat → Option AObj) (d : Nat) : AM.deep hp (d + 1) w = some w := by
  cases r with
  | none => have : w = .nils := h
            rw [this]; rfl
  | some q => obtain ⟨ex, rfl⟩ := h; rfl
def BadR (v k often : Int) : Prop := v < 2 ∨ 31 < v ∨ k < 2 ∨ 6 < k ∨ v - 1 < k ∨ often < 1 ∨ v < often
end Go.Proofs.YtofceaeboboflaaDoor
