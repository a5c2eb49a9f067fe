/-
  STRAPS (21): common divisors, units, the same list (slices.Equal). Conditions: none.
-/
import Derived.Test.YtpghadmpegncgaaK01
import Derived.Test.YtpghadmpegncgaaKAmH
import Derived.Test.YtpghadmpegncgaaK00
import Derived.Test.YtpghadmpegncgaaKAmE
set_option linter.all false
namespace Go.Proofs.Ytpghadmpegncgaa
open Go.AM
open Go.Proofs.Try (prog)
set_option linter.all false
set_option maxRecDepth 100000
set_option maxHeartbeats 4000000

theorem gcd_step (a b : Nat) : Nat.gcd a (b + 1) = Nat.gcd (b + 1) (a % (b + 1)) := by
  rw [Nat.gcd_comm a, Nat.gcd_rec (b + 1) a, Nat.gcd_comm]
theorem div_loop : ∀ (n a b : Nat) (m : Mem), b ≤ n → strap_divisor.L0 (.int .i64 a) (.int .i64 b) m [.code strap_divisor.r3, .code .ret] = some (.int .i64 (Nat.gcd a b), Mem.empty)
  | n, a, 0, m, _ => by
    rw [strap_divisor.L0_eq]
    simp
    done
  | 0, a, b + 1, m, h => by omega
  | n + 1, a, b + 1, m, h => by
    have hlt := Nat.mod_lt a (show 0 < b + 1 by omega)
    have ih := div_loop n (b + 1) (a % (b + 1)) ⟨m.h, m.nx + 6⟩ (by omega)
    have e : (a : Int).tmod ((b + 1 : Nat) : Int) = ((a % (b + 1) : Nat) : Int) := by rw [Int.tmod_eq_emod_of_nonneg (by omega)]; rfl
    have hb : ¬ ((b + 1 : Nat) : Int) = 0 := by omega
    rw [gcd_step, ← ih]
    generalize ((b + 1 : Nat) : Int) = B at *
    rw [strap_divisor.L0_eq]
    simp [hb, e]
    done
theorem div_spec (a b : Nat) (m : Mem) : denC prog ann 68 [.int .i64 a, .int .i64 b] m = some (.int .i64 (Nat.gcd a b), m) := by
  have lp := div_loop b a b Mem.empty (Nat.le_refl _)
  rw [strap_divisor.call_eq _ _ _ rfl]
  simp [lp]
  done
theorem gcd_loop : ∀ (n a b : Nat) (m : Mem), b ≤ n → r04_Gcd.L0 (.int .i64 a) (.int .i64 b) m [.code r04_Gcd.r3, .code .ret] = some (.int .i64 (Nat.gcd a b), Mem.empty)
  | n, a, 0, m, _ => by
    rw [r04_Gcd.L0_eq]
    simp
    done
  | 0, a, b + 1, m, h => by omega
  | n + 1, a, b + 1, m, h => by
    have hlt := Nat.mod_lt a (show 0 < b + 1 by omega)
    have ih := gcd_loop n (b + 1) (a % (b + 1)) ⟨m.h, m.nx + 6⟩ (by omega)
    have e : (a : Int).tmod ((b + 1 : Nat) : Int) = ((a % (b + 1) : Nat) : Int) := by rw [Int.tmod_eq_emod_of_nonneg (by omega)]; rfl
    have hb : ¬ ((b + 1 : Nat) : Int) = 0 := by omega
    have hb2 : (0 : Int) < ((b + 1 : Nat) : Int) := by omega
    rw [gcd_step, ← ih]
    generalize ((b + 1 : Nat) : Int) = B at *
    rw [r04_Gcd.L0_eq]
    simp [hb, hb2, e]
    done
theorem gcd_spec (a b : Nat) (m : Mem) : denC prog ann 38 [.int .i64 a, .int .i64 b] m = some (.int .i64 (Nat.gcd a b), m) := by
  have lp := gcd_loop b a b Mem.empty (Nat.le_refl _)
  rw [r04_Gcd.call_eq _ _ _ rfl]
  simp [lp]
  done
/-! ### The units -/
def uniF (v k i : Nat) : List Int := ((List.range' i k).filter fun t => decide (Nat.gcd t v = 1)).map fun t : Nat => (t : Int)
theorem uniF_succ (v k i : Nat) : uniF v (k + 1) i = if Nat.gcd i v = 1 then (i : Int) :: uniF v k (i + 1) else uniF v k (i + 1) := by
  simp only [uniF, List.range'_succ, List.filter_cons]
  by_cases h : Nat.gcd i v = 1 <;> simp [h]
theorem uni_loop {v : Nat} (hv : v ≤ 31) : ∀ (k i oid : Nat) (acc : List Int) (m : Mem), i + k = v → OutI m oid acc → acc.length ≤ i →
    strap_units.L0 (.int .i64 v) (outI oid acc) (.int .i64 v) (.int .i64 i) m [.code strap_units.r8, .code .ret] = some (intsV (acc ++ uniF v k i), Mem.empty) := by
  intro k
  induction k with
  | zero =>
    intro i oid acc m h1 ho ha
    have e : i = v := by omega
    subst e
    have hd := outI_deep ho
    rw [strap_units.L0_eq]
    simp [uniF, hd]
    done
  | succ k ih =>
    intro i oid acc m h1 ho ha
    have hi : i < v := by omega
    have hw : IntKind.wrap .i64 ((i : Int) + 1) = (i : Int) + 1 := wrap_id (by omega) (by omega)
    have hd := fun m => div_spec i v m
    by_cases q : Nat.gcd i v = 1
    · rw [q] at hd
      obtain ⟨oid', m', g1, g2, _⟩ := outI_appT ho (by omega) (i : Int)
      have hst := ih (i + 1) oid' (acc ++ [(i : Int)]) m' (by omega) g2 (by simp; omega)
      simp only [Int.natCast_add, Int.cast_ofNat_Int] at hst
      rw [uniF_succ, if_pos q, strap_units.L0_eq]
      simp [hi, hd, g1, hw, hst]
      done
    · have q' : ¬ ((Nat.gcd i v : Nat) : Int) = 1 := by omega
      have hst := ih (i + 1) oid acc m (by omega) ho (by omega)
      simp only [Int.natCast_add, Int.cast_ofNat_Int] at hst
      rw [uniF_succ, if_neg q, strap_units.L0_eq]
      simp [hi, hd, q', q, hw, hst]
      done
def unitsL (v : Nat) : List Int := uniF v v 0
theorem units_spec {v : Nat} (hv : v ≤ 31) (m : Mem) : denC prog ann 60 [.int .i64 v] m = some (intsV (unitsL v), m) := by
  have lp := uni_loop hv v 0 0 [] Mem.empty (by omega) (fun h => absurd rfl h) (Nat.le_refl _)
  rw [show outI 0 [] = .nils from rfl, List.nil_append] at lp
  simp only [Int.ofNat_zero, Int.cast_ofNat_Int] at lp
  rw [strap_units.call_eq _ _ rfl]
  simp [lp, unitsL]
  done
/-! ### slices.Equal -/
theorem eq_loop {wa wb : AV} {a b : List Int} (ha : IsInts wa a) (hb : IsInts wb b) (hl : a.length = b.length) (hl2 : a.length ≤ 1000) : ∀ (k i : Nat) (m : Mem), i + k = a.length →
    slices_Equal_int.L0 wa wb (.int .i64 a.length) (.int .i64 i) m [.code slices_Equal_int.r9, .code .ret] = some (.bool (decide (a.drop i = b.drop i)), Mem.empty) := by
  intro k
  induction k with
  | zero =>
    intro i m h1
    have e1 : a.drop i = [] := List.drop_of_length_le (by omega)
    have e2 : b.drop i = [] := List.drop_of_length_le (by omega)
    have e : i = a.length := by omega
    rw [e1, e2, e, slices_Equal_int.L0_eq]
    simp
    done
  | succ k ih =>
    intro i m h1
    have hi : i < a.length := by omega
    have hj : i < b.length := by omega
    have hw : IntKind.wrap .i64 ((i : Int) + 1) = (i : Int) + 1 := wrap_id (by omega) (by omega)
    have hst := fun m => ih (i + 1) m (by omega)
    simp only [Int.natCast_add, Int.cast_ofNat_Int] at hst
    have a1 := ha.idx hi .i64
    have a2 := ints_head hi
    have b1 := hb.idx hj .i64
    have b2 := ints_head hj
    rw [slices_Equal_int.L0_eq]
    by_cases q : nth a i = nth b i
    · have e : decide (a.drop i = b.drop i) = decide (a.drop (i + 1) = b.drop (i + 1)) := by
        rw [drop_nth hi, drop_nth hj, q]; simp
      rw [e]
      rw [q] at a2
      simp [hi, a1, a2, b1, b2, hw, hst]
      done
    · have e : decide (a.drop i = b.drop i) = false := by
        rw [drop_nth hi, drop_nth hj]; simp [q]
      rw [e]
      simp [hi, a1, a2, b1, b2, q]
      done
theorem equal_spec {wa wb : AV} {a b : List Int} (ha : IsInts wa a) (hb : IsInts wb b) (hl : a.length = b.length) (hl2 : a.length ≤ 1000) (m : Mem) : denC prog ann 61 [wa, wb] m = some (.bool (decide (a = b)), m) := by
  have lp := eq_loop ha hb hl hl2 a.length 0 Mem.empty (by omega)
  simp only [Int.ofNat_zero, Int.cast_ofNat_Int, List.drop_zero] at lp
  have hl3 := hb.len
  rw [← hl] at hl3
  rw [slices_Equal_int.call_eq _ _ _ (by simp [ha.closed, hb.closed])]
  simp [ha.len, hl3, lp]
  done
end Go.Proofs.Ytpghadmpegncgaa

/-
  STRAPS (22): the specification's multiplied and moved set. Conditions: none.
-/
namespace Go.Proofs.Ytpghadmpegncgaa
open Go.AM
open Go.Proofs.Try (prog)
set_option linter.all false
set_option maxRecDepth 100000
set_option maxHeartbeats 4000000

def bls (bs : List Bool) : List AV := bs.map fun b => AV.bool b
def bnth (bs : List Bool) (i : Nat) : Bool := bs.getD i false
def turF (bs : List Bool) (k p : Nat) : List Int := ((List.range' p k).filter (bnth bs)).map fun t : Nat => (t : Int)
theorem turF_succ (bs : List Bool) (k p : Nat) : turF bs (k + 1) p = if bnth bs p = true then (p : Int) :: turF bs k (p + 1) else turF bs k (p + 1) := by
  simp only [turF, List.range'_succ, List.filter_cons]
  by_cases h : bnth bs p = true <;> simp [h]
theorem tur_out {v : Nat} (hv : v ≤ 31) {bs : List Bool} (hb : bs.length = v) (i1 i2 : Nat) (hne : i1 ≠ i2) : ∀ (k p : Nat) (acc : List Int) (m : Mem), p + k = v → acc.length ≤ p → m.h i1 = some (.cells (bls bs)) → m.h i2 = some (.cells (ints acc)) →
    r04_Turned.L2 (.int .i64 v) (.sl i1 1 0 v v) (.sl i2 1 0 acc.length acc.length) (.int .i64 p) m [.code r04_Turned.r11, .code .ret] = some (.fsl false (acc ++ turF bs k p).length (ints (acc ++ turF bs k p)), Mem.empty) := by
  intro k
  induction k with
  | zero =>
    intro p acc m h1 ha m1 m2
    have e : p = v := by omega
    subst e
    rw [r04_Turned.L2_eq]
    simp [turF, m2]
    done
  | succ k ih =>
    intro p acc m h1 ha m1 m2
    have hp : p < v := by omega
    have hw : IntKind.wrap .i64 ((p : Int) + 1) = (p : Int) + 1 := wrap_id (by omega) (by omega)
    have hbl : (bls bs).length = v := by simp [bls, hb]
    have hbp : ∀ h, (bls bs)[p]'h = .bool (bnth bs p) := fun h => by
      have hp2 : p < bs.length := by omega
      simp [bls, bnth, hp2]
    rw [turF_succ]
    cases q : bnth bs p with
    | true =>
      rw [q] at hbp
      have hx : ints acc ++ [AV.int .i64 (p : Int)] = ints (acc ++ [(p : Int)]) := by simp [ints]
      have hst := ih (p + 1) (acc ++ [(p : Int)]) ⟨upd m.h i2 (some (.cells (ints (acc ++ [(p : Int)])))), m.nx⟩ (by omega) (by simp; omega) (by show upd m.h i2 _ i1 = _; rw [updNe hne]; exact m1) (by simp)
      simp only [Int.natCast_add, Int.cast_ofNat_Int, List.length_append, List.length_singleton, List.append_assoc, List.singleton_append] at hst
      rw [if_pos rfl, r04_Turned.L2_eq]
      simp [hp, m1, hbl, hbp, m2, hx, Mem.set, hw, show acc.length ≤ 4611686018427387903 by omega, show (acc.length + 1) * 8 ≤ 70368744177664 by omega, hst]
      done
    | false =>
      rw [q] at hbp
      have hst := ih (p + 1) acc m (by omega) (by omega) m1 m2
      simp only [Int.natCast_add, Int.cast_ofNat_Int, List.length_append] at hst
      rw [if_neg (by decide), r04_Turned.L2_eq]
      simp [hp, m1, hbl, hbp, hw, hst]
      done
def turS (l : List Int) (f : Int → Int) (k i : Nat) (bs : List Bool) : List Bool := (List.range' i k).foldl (fun bs i => bs.set (f (nth l i)).toNat true) bs
theorem turS_succ (l : List Int) (f : Int → Int) (k i : Nat) (bs : List Bool) : turS l f (k + 1) i bs = turS l f k (i + 1) (bs.set (f (nth l i)).toNat true) := by simp [turS, List.range'_succ]
theorem bls_set (bs : List Bool) (d : Nat) : (bls bs).set d (.bool true) = bls (bs.set d true) := by simp [bls, List.map_set]
theorem tur_in {w : AV} {v : Nat} {t s : Int} {l : List Int} (hv : IsInts w l) (hl : l.length ≤ 31) (hr : ∀ i, i < l.length → 0 ≤ nth l i ∧ nth l i < 31) (hv2 : 1 ≤ v ∧ v ≤ 31) (ht : 0 ≤ t ∧ t ≤ 31) (hs : 0 ≤ s ∧ s ≤ 31) (i1 i2 : Nat) (hne : i1 ≠ i2) : ∀ (k i : Nat) (bs : List Bool) (m : Mem), i + k = l.length → bs.length = v → m.h i1 = some (.cells (bls bs)) → m.h i2 = some (.cells (ints [])) →
    r04_Turned.L0 (.int .i64 v) w (.int .i64 t) (.int .i64 s) (.sl i1 1 0 v v) (.sl i2 1 0 0 0) (.int .i64 i) m [.code r04_Turned.r6, .code r04_Turned.k2, .code r04_Turned.r11, .code .ret] = some (.fsl false (turF (turS l (mvF v t s) k i bs) v 0).length (ints (turF (turS l (mvF v t s) k i bs) v 0)), Mem.empty) := by
  intro k
  induction k with
  | zero =>
    intro i bs m h1 hb m1 m2
    have e : i = l.length := by omega
    subst e
    have lp := tur_out hv2.2 hb i1 i2 hne v 0 [] m (by omega) (Nat.le_refl _) m1 m2
    simp only [Int.ofNat_zero, Int.cast_ofNat_Int, List.nil_append, List.length_nil] at lp
    rw [r04_Turned.L0_eq]
    simp [hv.len, lp, turS]
    done
  | succ k ih =>
    intro i bs m h1 hb m1 m2
    have hi : i < l.length := by omega
    have hw : IntKind.wrap .i64 ((i : Int) + 1) = (i : Int) + 1 := wrap_id (by omega) (by omega)
    have hx := hr i hi
    have p0 : 0 ≤ nth l i * t := Int.mul_nonneg (by omega) (by omega)
    have p1 : nth l i * t ≤ 31 * 31 := Int.mul_le_mul (by omega) (by omega) (by omega) (by omega)
    have hw1 : IntKind.wrap .i64 (nth l i * t) = nth l i * t := wrap_id (by omega) (by omega)
    have hw2 : IntKind.wrap .i64 (nth l i * t + s) = nth l i * t + s := wrap_id (by omega) (by omega)
    have hv0 : ¬ (v : Int) = 0 := by omega
    have hv0' : ¬ v = 0 := by omega
    have er : (nth l i * t + s).tmod v = (nth l i * t + s) % v := Int.tmod_eq_emod_of_nonneg (by omega)
    have e1 := Int.emod_nonneg (nth l i * t + s) hv0
    have e2 := Int.emod_lt_of_pos (nth l i * t + s) (show (0 : Int) < v by omega)
    obtain ⟨d, hd⟩ : ∃ d : Nat, (nth l i * t + s).tmod v = d := ⟨((nth l i * t + s) % v).toNat, by omega⟩
    have hdv : d < v := by omega
    have hmv : (mvF v t s (nth l i)).toNat = d := by unfold mvF; rw [hd]; rfl
    have hbl : (bls bs).length = v := by simp [bls, hb]
    have hst := ih (i + 1) (bs.set d true) ⟨upd m.h i1 (some (.cells (bls (bs.set d true)))), m.nx⟩ (by omega) (by simp [hb]) (by simp) (by show upd m.h i1 _ i2 = _; rw [updNe (fun h => hne h.symm)]; exact m2)
    simp only [Int.natCast_add, Int.cast_ofNat_Int] at hst
    rw [turS_succ, hmv, ← hst, r04_Turned.L0_eq]
    simp [hi, hv.len, hv.idx hi, ints_head hi, hw1, hw2, hv0, hv0', hd, hdv, m1, hbl, bls_set, Mem.set, hw]
    done
def turL (v : Nat) (t s : Int) (l : List Int) : List Int := turF (turS l (mvF v t s) l.length 0 (List.replicate v false)) v 0
theorem turned_spec {w : AV} {v : Nat} {t s : Int} {l : List Int} (hv : IsInts w l) (hl : l.length ≤ 31) (hr : ∀ i, i < l.length → 0 ≤ nth l i ∧ nth l i < 31) (hv2 : 1 ≤ v ∧ v ≤ 31) (ht : 0 ≤ t ∧ t ≤ 31) (hs : 0 ≤ s ∧ s ≤ 31) (m : Mem) :
    denC prog ann 39 [.int .i64 v, w, .int .i64 t, .int .i64 s] m = some (.fsl false (turL v t s l).length (ints (turL v t s l)), m) := by
  have hcl : closedL [.int .i64 v, w, .int .i64 t, .int .i64 s] = true := by simp [hv.closed]
  have lp := tur_in hv hl hr hv2 ht hs 0 1 (by decide) l.length 0 (List.replicate v false) ⟨upd (upd Mem.empty.h 0 (some (.cells (bls (List.replicate v false))))) 1 (some (.cells (ints []))), 2⟩ (by omega) (by simp) (by simp) (by simp)
  have e : bls (List.replicate v false) = List.replicate v (AV.bool false) := by simp [bls]
  rw [e] at lp
  simp only [Int.ofNat_zero, Int.cast_ofNat_Int] at lp
  simp at lp
  rw [r04_Turned.call_eq _ _ _ _ _ hcl]
  simp [show v ≤ 4611686018427387904 by omega, show v ≤ 70368744177664 by omega, lp, turL]
  done
end Go.Proofs.Ytpghadmpegncgaa

/-
  STRAPS (23): moved by the code and by the specification: the same. Conditions: none.
-/
namespace Go.Proofs.Ytpghadmpegncgaa
open Go.AM
set_option linter.all false
set_option maxRecDepth 10000
set_option maxHeartbeats 2000000

theorem mvF_rng {v : Nat} (hv : 0 < v) {t s x : Int} (h : 0 ≤ x * t + s) : 0 ≤ mvF v t s x ∧ mvF v t s x < v ∧ mvF v t s x = (x * t + s) % v := by
  have e := Int.tmod_eq_emod_of_nonneg (b := (v : Int)) h
  unfold mvF
  rw [e]
  exact ⟨Int.emod_nonneg _ (by omega), Int.emod_lt_of_pos _ (by omega), rfl⟩
theorem dvd_small {v t : Nat} (hg : Nat.gcd t v = 1) {d : Nat} (hd : d < v) (h : (v : Int) ∣ (d : Int) * t) : d = 0 := by
  have h2 : v ∣ d * t := by
    have := Int.natAbs_dvd_natAbs.2 h
    simpa [Int.natAbs_mul] using this
  have hc : Nat.Coprime v t := by rw [Nat.Coprime, Nat.gcd_comm]; exact hg
  exact Nat.eq_zero_of_dvd_of_lt (hc.dvd_of_dvd_mul_right h2) hd
theorem mvF_inj {v t : Nat} (hg : Nat.gcd t v = 1) {s x y : Int} (hs : 0 ≤ s) (hx : 0 ≤ x ∧ x < v) (hy : 0 ≤ y ∧ y < v) (h : mvF v t s x = mvF v t s y) : x = y := by
  have hv : 0 < v := by omega
  have px : 0 ≤ x * (t : Int) := Int.mul_nonneg hx.1 (by omega)
  have py : 0 ≤ y * (t : Int) := Int.mul_nonneg hy.1 (by omega)
  rw [(mvF_rng hv (by omega : 0 ≤ x * (t : Int) + s)).2.2, (mvF_rng hv (by omega : 0 ≤ y * (t : Int) + s)).2.2] at h
  have h2 : (v : Int) ∣ (x - y) * t := by
    have := Int.emod_emod_of_dvd
    have h3 := Int.emod_eq_emod_iff_emod_sub_eq_zero.1 h
    have h4 := Int.dvd_of_emod_eq_zero h3
    rwa [show x * (t : Int) + s - (y * t + s) = (x - y) * t by rw [Int.sub_mul]; omega] at h4
  rcases Int.le_total y x with q | q
  · obtain ⟨d, hd⟩ : ∃ d : Nat, x - y = d := ⟨(x - y).toNat, by omega⟩
    rw [hd] at h2
    have := dvd_small hg (by omega) h2
    omega
  · obtain ⟨d, hd⟩ : ∃ d : Nat, y - x = d := ⟨(y - x).toNat, by omega⟩
    have h3 : (v : Int) ∣ (d : Int) * t := by
      have := Int.dvd_neg.2 h2
      rwa [show -((x - y) * (t : Int)) = (d : Int) * t by rw [← Int.neg_mul, ← hd]; congr 1; omega] at this
    have := dvd_small hg (by omega) h3
    omega
theorem bnth_set {bs : List Bool} {d p : Nat} (hd : d < bs.length) : bnth (bs.set d true) p = (decide (p = d) || bnth bs p) := by
  simp only [bnth, List.getD, List.getElem?_set]
  by_cases e : d = p
  · subst e; simp [hd]
  · have e' : ¬ p = d := fun h => e h.symm
    simp [e, e']
theorem turS_nth {l : List Int} {f : Int → Int} {p : Nat} : ∀ {k i : Nat} {bs : List Bool}, (∀ j, i ≤ j → j < i + k → (f (nth l j)).toNat < bs.length) → (bnth (turS l f k i bs) p = true ↔ bnth bs p = true ∨ ∃ j, i ≤ j ∧ j < i + k ∧ (f (nth l j)).toNat = p)
  | 0, i, bs, _ => by
    constructor
    · exact .inl
    · rintro (h | ⟨j, h1, h2, _⟩)
      · exact h
      · omega
  | k + 1, i, bs, h => by
    rw [turS_succ, turS_nth (fun j h1 h2 => by rw [List.length_set]; exact h j (by omega) (by omega)), bnth_set (h i (by omega) (by omega)), Bool.or_eq_true, decide_eq_true_eq]
    constructor
    · rintro ((h | h) | ⟨j, h1, h2, h3⟩)
      · exact .inr ⟨i, by omega, by omega, h.symm⟩
      · exact .inl h
      · exact .inr ⟨j, by omega, by omega, h3⟩
    · rintro (h | ⟨j, h1, h2, h3⟩)
      · exact .inl (.inr h)
      · by_cases e : j = i
        · subst e; exact .inl (.inl h3.symm)
        · exact .inr ⟨j, by omega, by omega, h3⟩
theorem range_sorted : ∀ (k p : Nat), (List.range' p k).Pairwise (· < ·) := fun k p => List.pairwise_lt_range'
theorem turF_sorted (bs : List Bool) (k p : Nat) : (turF bs k p).Pairwise (· < ·) := by
  unfold turF
  exact ((range_sorted k p).filter _).map _ fun a b h => by show (a : Int) < b; omega
theorem mem_turL {v : Nat} {t s : Int} {l : List Int} (hv : 0 < v) (hp : ∀ i, i < l.length → 0 ≤ nth l i * t + s) (x : Int) : x ∈ turL v t s l ↔ x ∈ l.map (mvF v t s) := by
  have hr : ∀ i, i < l.length → 0 ≤ mvF v t s (nth l i) ∧ mvF v t s (nth l i) < v := fun i hi => ⟨(mvF_rng hv (hp i hi)).1, (mvF_rng hv (hp i hi)).2.1⟩
  have hk : ∀ p, bnth (turS l (mvF v t s) l.length 0 (List.replicate v false)) p = true ↔ ∃ j, j < l.length ∧ (mvF v t s (nth l j)).toNat = p := fun p => by
    rw [turS_nth (fun j _ h2 => by have := hr j (by omega); simp; omega)]
    have z : bnth (List.replicate v false) p = false := by simp only [bnth, List.getD, List.getElem?_replicate]; split <;> rfl
    rw [z]
    constructor
    · rintro (h | ⟨j, _, h2, h3⟩)
      · cases h
      · exact ⟨j, by omega, h3⟩
    · rintro ⟨j, h2, h3⟩
      exact .inr ⟨j, by omega, by omega, h3⟩
  rw [turL, turF, List.mem_map, List.mem_map]
  constructor
  · rintro ⟨p, h1, rfl⟩
    rw [List.mem_filter] at h1
    obtain ⟨j, hj, e⟩ := (hk p).1 h1.2
    have := hr j hj
    exact ⟨nth l j, nth_mem hj, by omega⟩
  · rintro ⟨y, h1, rfl⟩
    obtain ⟨j, hj, e⟩ := List.getElem_of_mem h1
    rw [nth_get hj] at e
    have := hr j hj
    rw [e] at this
    refine ⟨(mvF v t s y).toNat, ?_, by omega⟩
    rw [List.mem_filter]
    refine ⟨by simp [List.mem_range'_1]; omega, (hk _).2 ⟨j, hj, by rw [e]⟩⟩
theorem tur_mv {v : Nat} {t : Nat} {s : Int} {l : List Int} (s' : RingOk v l) (hg : Nat.gcd t v = 1) (hs : 0 ≤ s) : turL v t s l = mvL v t s l := by
  have hv := s'.v2
  have hp : ∀ i, i < l.length → 0 ≤ nth l i * (t : Int) + s := fun i hi => by
    have := Int.mul_nonneg (s'.rng i hi).1 (show (0 : Int) ≤ t by omega)
    omega
  have nd : (l.map (mvF v t s)).Nodup := by
    rw [List.nodup_iff_pairwise_ne, List.pairwise_map, List.pairwise_iff_getElem]
    intro i j hi hj hij h
    rw [nth_get hi, nth_get hj] at h
    have := mvF_inj hg hs (s'.rng i hi) (s'.rng j hj) h
    have := s'.lt hij hj
    omega
  have sl := turF_sorted (turS l (mvF v t s) l.length 0 (List.replicate v false)) v 0
  have pm : (turL v t s l).Perm (l.map (mvF v t s)) := (List.perm_ext_iff_of_nodup (lt_nodup sl) nd).2 fun x => mem_turL (by omega) hp x
  exact sorted_uniq (sl.imp fun h => by omega) (sortI_sorted _) (pm.trans (sortI_perm _).symm)
end Go.Proofs.Ytpghadmpegncgaa

/-
  STRAPS (24): Multipliers, and the specification's. Conditions: none.
-/
namespace Go.Proofs.Ytpghadmpegncgaa
open Go.AM
open Go.Proofs.Try (prog)
set_option linter.all false
set_option maxRecDepth 100000
set_option maxHeartbeats 4000000

def fndF (v : Nat) (t : Int) (l : List Int) (k b : Nat) : Bool := (List.range' b k).any fun b : Nat => decide (mvL v t (b : Int) l = l)
theorem fndF_succ (v : Nat) (t : Int) (l : List Int) (k b : Nat) : fndF v t l (k + 1) b = (decide (mvL v t (b : Int) l = l) || fndF v t l k (b + 1)) := by simp [fndF, List.range'_succ]
theorem mvL_len (v t s : Int) (l : List Int) : (mvL v t s l).length = l.length := by rw [mvL, sortI_len, List.length_map]
theorem RingOk.rng31 {v : Int} {l : List Int} (s : RingOk v l) : ∀ i, i < l.length → 0 ≤ nth l i ∧ nth l i < 31 := fun i hi => by
  have := s.rng i hi; have := s.v31; omega
theorem mul_in {w uw : AV} {v : Nat} {l : List Int} (hv : IsInts w l) (s : RingOk v l) {t : Int} (ht : 0 ≤ t ∧ t ≤ 31) (ulen i : Int) (hi : I64 (i + 1)) (oid : Nat) (acc : List Int) (hacc : acc.length ≤ 1000) (K : List Item) : ∀ (k b : Nat) (m : Mem), b + k = v → OutI m oid acc →
    ∃ oid' m', OutI m' oid' (if fndF v t l k b = true then acc ++ [t] else acc) ∧ strap_Multipliers.L2 (.int .i64 v) w (outI oid acc) (.int .i64 t) uw (.int .i64 ulen) (.int .i64 i) (.int .i64 v) (.int .i64 b) m (.inBlock 1 :: .code strap_Multipliers.r14 :: .inLoop strap_Multipliers.l0 :: .inBlock 0 :: K) =
      strap_Multipliers.L0 (.int .i64 v) w (outI oid' (if fndF v t l k b = true then acc ++ [t] else acc)) uw (.int .i64 ulen) (.int .i64 (i + 1)) m' K := by
  intro k
  have hfew := s.few
  have hpos := s.pos
  have hv2 := s.v2
  have hv31 := s.v31
  have hwi : IntKind.wrap .i64 (i + 1) = i + 1 := wrap_id hi.1 (by have := hi.2; omega)
  induction k with
  | zero =>
    intro b m h1 ho
    have e : b = v := by omega
    subst e
    refine ⟨oid, m, ho, ?_⟩
    rw [strap_Multipliers.L2_eq]
    simp [hwi, fndF]
    done
  | succ k ih =>
    intro b m h1 ho
    have hb : b < v := by omega
    have hw : IntKind.wrap .i64 ((b : Int) + 1) = (b : Int) + 1 := wrap_id (by omega) (by omega)
    have hm := fun m => moved_spec (v := (v : Int)) (t := t) (s := (b : Int)) hv hfew hpos s.rng31 (by omega) ht (by omega) m
    have hml := mvL_len v t b l
    have he := fun m => equal_spec (wa := .fsl false l.length (ints (mvL v t b l))) (wb := w) (a := mvL v t b l) (b := l) (.inr ⟨false, by rw [hml]⟩) hv hml (by omega) m
    rw [fndF_succ]
    by_cases q : mvL v t b l = l
    · rw [decide_eq_true q] at he
      obtain ⟨oid', m', g1, g2, _⟩ := outI_appT ho (by omega) t
      refine ⟨oid', m', by rw [decide_eq_true q, Bool.true_or, if_pos rfl]; exact g2, ?_⟩
      rw [decide_eq_true q, Bool.true_or, if_pos rfl, strap_Multipliers.L2_eq]
      simp [hb, hv.closed, hm, he, g1, hwi]
      done
    · rw [decide_eq_false q] at he
      obtain ⟨oid', m', g1, g2⟩ := ih (b + 1) m (by omega) ho
      simp only [Int.natCast_add, Int.cast_ofNat_Int] at g2
      refine ⟨oid', m', by rw [decide_eq_false q, Bool.false_or]; exact g1, ?_⟩
      rw [decide_eq_false q, Bool.false_or, ← g2, strap_Multipliers.L2_eq]
      simp [hb, hv.closed, hm, he, hw]
      done
theorem mul_out {w uw : AV} {v : Nat} {l T : List Int} (hv : IsInts w l) (hu : IsInts uw T) (hT : ∀ i, i < T.length → 0 ≤ nth T i ∧ nth T i ≤ 31) (hTl : T.length ≤ 31) (s : RingOk v l) : ∀ (k i oid : Nat) (acc : List Int) (m : Mem), i + k = T.length → acc.length ≤ i → OutI m oid acc →
    strap_Multipliers.L0 (.int .i64 v) w (outI oid acc) uw (.int .i64 T.length) (.int .i64 i) m [.code strap_Multipliers.r15, .code .ret] = some (.tup [intsV (acc ++ (T.drop i).filter fun t => fndF v t l v 0), .int .i64 0], Mem.empty) := by
  intro k
  induction k with
  | zero =>
    intro i oid acc m h1 ha ho
    have e : i = T.length := by omega
    subst e
    have hd := outI_deep ho
    rw [strap_Multipliers.L0_eq]
    simp [hd]
    done
  | succ k ih =>
    intro i oid acc m h1 ha ho
    have hi : i < T.length := by omega
    obtain ⟨oid', m', g1, g2⟩ := mul_in (uw := uw) hv s (hT i hi) T.length i ⟨by omega, by omega⟩ oid acc (by omega) [.code strap_Multipliers.r15, .code .ret] v 0 m (by omega) ho
    simp only [Int.ofNat_zero, Int.cast_ofNat_Int] at g2
    rw [drop_nth hi, List.filter_cons]
    cases q : fndF v (nth T i) l v 0 with
    | true =>
      rw [q, if_pos rfl] at g1 g2
      have hst := ih (i + 1) oid' (acc ++ [nth T i]) m' (by omega) (by simp; omega) g1
      simp only [Int.natCast_add, Int.cast_ofNat_Int] at hst
      rw [if_pos rfl, strap_Multipliers.L0_eq]
      simp [hi, hu.idx hi, ints_head hi, g2, hst]
      done
    | false =>
      rw [q, if_neg (by decide)] at g1 g2
      have hst := ih (i + 1) oid' acc m' (by omega) (by omega) g1
      simp only [Int.natCast_add, Int.cast_ofNat_Int] at hst
      rw [if_neg (by decide), strap_Multipliers.L0_eq]
      simp [hi, hu.idx hi, ints_head hi, g2, hst]
      done
def multsL (v : Nat) (l : List Int) : List Int := (unitsL v).filter fun t => fndF v t l v 0
theorem mem_uniF {v k i : Nat} {x : Int} (h : x ∈ uniF v k i) : ∃ t : Nat, x = t ∧ i ≤ t ∧ t < i + k ∧ Nat.gcd t v = 1 := by
  rw [uniF, List.mem_map] at h
  obtain ⟨t, h1, rfl⟩ := h
  rw [List.mem_filter] at h1
  have h2 := h1.1
  simp [List.mem_range'_1] at h2
  exact ⟨t, rfl, h2.1, h2.2, by simpa using h1.2⟩
theorem unitsL_few (v : Nat) : (unitsL v).length ≤ v := by
  have := List.length_filter_le (fun t => decide (Nat.gcd t v = 1)) (List.range' 0 v)
  simp only [unitsL, uniF, List.length_map]; simpa using this
theorem unitsL_rng {v : Nat} (hv : v ≤ 31) : ∀ i, i < (unitsL v).length → 0 ≤ nth (unitsL v) i ∧ nth (unitsL v) i ≤ 31 := fun i hi => by
  obtain ⟨t, e, _, h2, _⟩ := mem_uniF (v := v) (k := v) (i := 0) (x := nth (unitsL v) i) (nth_mem hi)
  rw [e]
  omega
theorem mults_spec {w : AV} {v : Nat} {l : List Int} (hv : IsInts w l) (s : RingOk v l) (hr : ∀ m, denC prog ann 55 [.int .i64 v, w] m = some (.int .i64 0, m)) (m : Mem) :
    denC prog ann 34 [.int .i64 v, w] m = some (.tup [intsV (multsL v l), .int .i64 0], m) := by
  have hcl : closedL [.int .i64 v, w] = true := by simp [hv.closed]
  have hv31 := s.v31
  have hu := intsV_is (unitsL v)
  have hf := unitsL_few v
  have lp := mul_out hv hu (unitsL_rng (by omega)) (by omega) s (unitsL v).length 0 0 [] Mem.empty (by omega) (Nat.le_refl _) (fun h => absurd rfl h)
  rw [show outI 0 [] = .nils from rfl, List.nil_append, List.drop_zero] at lp
  simp only [Int.ofNat_zero, Int.cast_ofNat_Int] at lp
  have hus := fun m => units_spec (v := v) (by omega) m
  rw [strap_Multipliers.call_eq _ _ _ hcl]
  simp [hv.closed, hr, hus, hu.len, lp, multsL]
  done
end Go.Proofs.Ytpghadmpegncgaa

/-
  STRAPS (25): the specification's Multipliers. Conditions: none.
-/
namespace Go.Proofs.Ytpghadmpegncgaa
open Go.AM
open Go.Proofs.Try (prog)
set_option linter.all false
set_option maxRecDepth 100000
set_option maxHeartbeats 4000000

def rmL (v : Nat) (l : List Int) (k t : Nat) : List Int := (uniF v k t).filter fun t => fndF v t l v 0
end Go.Proofs.Ytpghadmpegncgaa

/-
  BODIES OF FUNCTIONS OF THE PROGRAM AS SMALL OPERATIONS (written by gen.py; checked by the kernel against the program). Conditions: none.
-/
namespace Go.Proofs.Ytpghadmpegncgaa
open Go.AM
open Go.Proofs.Try (prog)
set_option maxRecDepth 100000
set_option linter.all false

namespace cmp_isNaN_int
/-- cmp.isNaNint -/
noncomputable def b : Code := (Try.f85.body).getD .skip
theorem hf : prog.funcs[85]? = some Try.f85 := by kernel_rfl
noncomputable def r0 : Code := findReg b 0
noncomputable def r1 : Code := findReg b 1
theorem b_eq (K : List Item) (s : St) : den prog ann 85 (.code b :: K) s = den prog ann 85 (.code r0 :: .code r1 :: .code .ret :: K) s := den_flat hf (l := [r0, r1, .ret]) (by kernel_rfl) K s
theorem r0_eq (K : List Item) (s : St) : den prog ann 85 (.code r0 :: K) s = mreg prog ann 85 none [] none [] [
    ⟨some 2, none, .v fun s => some (.bool false)⟩] K s := (den_reg hf _ K s).trans (by kernel_rfl)
theorem r1_eq (K : List Item) (s : St) : den prog ann 85 (.code r1 :: K) s = mreg prog ann 85 none [] none [] [
    ⟨some 3, none, .v fun s => some (s.get 0)⟩,
    ⟨some 4, none, .v fun s => some (s.get 0)⟩,
    ⟨some 5, none, .v fun s => binA prog .neq 3 (s.get 3) (s.get 4)⟩,
    ⟨some 2, none, .v fun s => some (s.get 5)⟩] K s := (den_reg hf _ K s).trans (by kernel_rfl)
theorem ret_eq (K : List Item) (s : St) : den prog ann 85 (.code .ret :: K) s = finM true [fun s => some (s.get 2)] s := (den_ret hf K s).trans (by kernel_rfl)
theorem nil_eq (s : St) : den prog ann 85 [] s = finM true [fun s => some (s.get 2)] s := (den_nil hf s).trans (by kernel_rfl)
theorem inBlock_eq (id : Nat) (K : List Item) (s : St) : den prog ann 85 (.inBlock id :: K) s = den prog ann 85 K s := den_inBlock hf id K s
theorem exit_eq (id : Nat) (K : List Item) (s : St) : den prog ann 85 (.code (.exit id) :: K) s = exitV prog ann 85 (exitTo id K) s := den_exitV hf id K s
theorem call_eq (v0 : AV) (m : Mem) (h : closedL [v0] = true) : denC prog ann 85 [v0] m = (den prog ann 85 [.code b] ⟨[(0, v0)], 6, Mem.empty⟩).bind fun r => some (r.1, m) := (denC_pure hf (b := b) (by kernel_rfl) (by kernel_rfl) (by kernel_rfl) h m).trans (by kernel_rfl)
theorem pure_eq : (ann 85).pure = true := by kernel_rfl
attribute [simp] b_eq r0_eq r1_eq ret_eq nil_eq inBlock_eq exit_eq pure_eq
end cmp_isNaN_int
end Go.Proofs.Ytpghadmpegncgaa

/-
  STRAPS (26): slices.Compare. Conditions: none.
-/
namespace Go.Proofs.Ytpghadmpegncgaa
open Go.AM
open Go.Proofs.Try (prog)
set_option linter.all false
set_option maxRecDepth 100000
set_option maxHeartbeats 4000000

theorem nan_spec (x : Int) (m : Mem) : denC prog ann 85 [.int .i64 x] m = some (.bool false, m) := by
  rw [cmp_isNaN_int.call_eq _ _ rfl]
  simp
  done
def cmpI (x y : Int) : Int := if x < y then -1 else if y < x then 1 else 0
theorem cmp_spec (x y : Int) (m : Mem) : denC prog ann 73 [.int .i64 x, .int .i64 y] m = some (.int .i64 (cmpI x y), m) := by
  rw [cmp_Compare_int.call_eq _ _ _ rfl]
  unfold cmpI
  by_cases q : x < y
  · simp [nan_spec, q]
    done
  · by_cases q2 : y < x
    · simp [nan_spec, q, q2]
      done
    · simp [nan_spec, q, q2]
      done
def cmpV (a b : List Int) : Int := if lexLt a b = true then -1 else if a = b then 0 else 1
theorem com_loop {wa wb : AV} {a b : List Int} (ha : IsInts wa a) (hb : IsInts wb b) (hl : a.length = b.length) (hl2 : a.length ≤ 1000) : ∀ (k i : Nat) (m : Mem), i + k = a.length →
    slices_Compare_int.L0 wa wb wa (.int .i64 a.length) (.int .i64 i) m [.code slices_Compare_int.r11, .code slices_Compare_int.i3, .code slices_Compare_int.r13, .code .ret] = some (.int .i64 (cmpV (a.drop i) (b.drop i)), Mem.empty) := by
  intro k
  have hl3 := hb.len
  rw [← hl] at hl3
  induction k with
  | zero =>
    intro i m h1
    have e1 : a.drop i = [] := List.drop_of_length_le (by omega)
    have e2 : b.drop i = [] := List.drop_of_length_le (by omega)
    have e : i = a.length := by omega
    rw [e1, e2, e, slices_Compare_int.L0_eq]
    simp [ha.len, hl3, cmpV, lexLt]
    done
  | succ k ih =>
    intro i m h1
    have hi : i < a.length := by omega
    have hi2 : ¬ (a.length : Int) ≤ i := by omega
    have hi3 : ¬ a.length ≤ i := by omega
    have hj : i < b.length := by omega
    have hw : IntKind.wrap .i64 ((i : Int) + 1) = (i : Int) + 1 := wrap_id (by omega) (by omega)
    have hst := fun m => ih (i + 1) m (by omega)
    simp only [Int.natCast_add, Int.cast_ofNat_Int] at hst
    have a1 := ha.idx hi .i64
    have a2 := ints_head hi
    have b1 := hb.idx hj .i64
    have b2 := ints_head hj
    rw [slices_Compare_int.L0_eq]
    by_cases q : nth a i = nth b i
    · have e : cmpV (a.drop i) (b.drop i) = cmpV (a.drop (i + 1)) (b.drop (i + 1)) := by
        rw [cmpV, cmpV, lexLt_drop hi hj, if_pos q, drop_nth hi, drop_nth hj, q]; simp
      have hc : cmpI (nth a i) (nth b i) = 0 := by rw [q, cmpI, if_neg (by omega), if_neg (by omega)]
      rw [e]
      simp [hi, hi2, hi3, hl3, a1, a2, b1, b2, cmp_spec, hc, hw, hst]
      done
    · have hc : cmpI (nth a i) (nth b i) ≠ 0 := by
        unfold cmpI; split
        · decide
        · split
          · decide
          · omega
      have e : cmpV (a.drop i) (b.drop i) = cmpI (nth a i) (nth b i) := by
        rw [cmpV, lexLt_drop hi hj, if_neg q, cmpI]
        by_cases q2 : nth a i < nth b i
        · rw [if_pos (by simpa using q2), if_pos q2]
        · rw [if_neg (by simpa using q2), if_neg q2, if_neg (show ¬ a.drop i = b.drop i by rw [drop_nth hi, drop_nth hj]; simp [q]), if_pos (show nth b i < nth a i by omega)]
      rw [e]
      simp [hi, hi2, hi3, hl3, a1, a2, b1, b2, cmp_spec, hc]
      done
theorem compare_spec {wa wb : AV} {a b : List Int} (ha : IsInts wa a) (hb : IsInts wb b) (hl : a.length = b.length) (hl2 : a.length ≤ 1000) (m : Mem) : denC prog ann 70 [wa, wb] m = some (.int .i64 (cmpV a b), m) := by
  have lp := com_loop ha hb hl hl2 a.length 0 Mem.empty (by omega)
  simp only [Int.ofNat_zero, Int.cast_ofNat_Int, List.drop_zero] at lp
  rw [slices_Compare_int.call_eq _ _ _ (by simp [ha.closed, hb.closed])]
  simp [ha.len, lp]
  done
theorem cmpV_neg (a b : List Int) : cmpV a b < 0 ↔ lexLt a b = true := by
  unfold cmpV
  split
  · simp [*]
  · split <;> simp [*, lexLt_irr]
end Go.Proofs.Ytpghadmpegncgaa

/-
  STRAPS (27): the least set that a set becomes. Conditions: none.
-/
namespace Go.Proofs.Ytpghadmpegncgaa
open Go.AM
open Go.Proofs.Try (prog)
set_option linter.all false
set_option maxRecDepth 100000
set_option maxHeartbeats 4000000

def cStep (v : Nat) (t : Int) (l best : List Int) (s : Nat) : List Int := if lexLt (mvL v t (s : Int) l) best = true then mvL v t (s : Int) l else best
def cF (v : Nat) (t : Int) (l : List Int) (k s : Nat) (best : List Int) : List Int := (List.range' s k).foldl (cStep v t l) best
theorem cF_succ (v : Nat) (t : Int) (l : List Int) (k s : Nat) (best : List Int) : cF v t l (k + 1) s best = cF v t l k (s + 1) (cStep v t l best s) := by simp [cF, List.range'_succ]
theorem cStep_len {v : Nat} {t : Int} {l best : List Int} {s : Nat} (h : best.length = l.length) : (cStep v t l best s).length = l.length := by
  unfold cStep; split
  · exact mvL_len ..
  · exact h
theorem cF_len {v : Nat} {t : Int} {l : List Int} : ∀ {k s : Nat} {best : List Int}, best.length = l.length → (cF v t l k s best).length = l.length
  | 0, _, _, h => h
  | k + 1, s, best, h => by rw [cF_succ]; exact cF_len (cStep_len h)
theorem can_in {w uw : AV} {v : Nat} {l : List Int} (hv : IsInts w l) (s' : RingOk v l) {t : Int} (ht : 0 ≤ t ∧ t ≤ 31) (ulen i : Int) (hi : I64 (i + 1)) (K : List Item) : ∀ (k s : Nat) (best : List Int) (bv : AV) (m : Mem), s + k = v → IsInts bv best → best.length = l.length →
    ∃ bv', IsInts bv' (cF v t l k s best) ∧ strap_canon.L2 (.int .i64 v) w bv (.int .i64 t) uw (.int .i64 ulen) (.int .i64 i) (.int .i64 v) (.int .i64 s) m (.inBlock 1 :: .code strap_canon.r12 :: .inLoop strap_canon.l0 :: .inBlock 0 :: K) =
      strap_canon.L0 (.int .i64 v) w bv' uw (.int .i64 ulen) (.int .i64 (i + 1)) m K := by
  intro k
  have hfew := s'.few
  have hpos := s'.pos
  have hv2 := s'.v2
  have hv31 := s'.v31
  have hwi : IntKind.wrap .i64 (i + 1) = i + 1 := wrap_id hi.1 (by have := hi.2; omega)
  induction k with
  | zero =>
    intro s best bv m h1 hb hl
    have e : s = v := by omega
    subst e
    refine ⟨bv, hb, ?_⟩
    rw [strap_canon.L2_eq]
    simp [hwi]
    done
  | succ k ih =>
    intro s best bv m h1 hb hl
    have hs : s < v := by omega
    have hw : IntKind.wrap .i64 ((s : Int) + 1) = (s : Int) + 1 := wrap_id (by omega) (by omega)
    have hm := fun m => moved_spec (v := (v : Int)) (t := t) (s := (s : Int)) hv hfew hpos s'.rng31 (by omega) ht (by omega) m
    have hml := mvL_len v t s l
    have hmi : IsInts (.fsl false l.length (ints (mvL v t s l))) (mvL v t s l) := .inr ⟨false, by rw [hml]⟩
    have hc := fun m => compare_spec hmi hb (by omega) (by omega) m
    rw [cF_succ]
    by_cases q : lexLt (mvL v t s l) best = true
    · have e : cStep v t l best s = mvL v t s l := if_pos q
      have hn := (cmpV_neg _ _).2 q
      rw [e]
      obtain ⟨bv', g1, g2⟩ := ih (s + 1) (mvL v t s l) _ m (by omega) hmi hml
      simp only [Int.natCast_add, Int.cast_ofNat_Int] at g2
      refine ⟨bv', g1, ?_⟩
      rw [← g2, strap_canon.L2_eq]
      simp [hs, hv.closed, hm, hb.closed, hc, hn, hw]
      done
    · have e : cStep v t l best s = best := if_neg q
      have hn : ¬ cmpV (mvL v t s l) best < 0 := fun h => q ((cmpV_neg _ _).1 h)
      rw [e]
      obtain ⟨bv', g1, g2⟩ := ih (s + 1) best bv m (by omega) hb hl
      simp only [Int.natCast_add, Int.cast_ofNat_Int] at g2
      refine ⟨bv', g1, ?_⟩
      rw [← g2, strap_canon.L2_eq]
      simp [hs, hv.closed, hm, hb.closed, hc, hn, hw]
      done
def cT (v : Nat) (l : List Int) (T : List Int) (best : List Int) : List Int := T.foldl (fun b t => cF v t l v 0 b) best
theorem can_out {w uw : AV} {v : Nat} {l T : List Int} (hv : IsInts w l) (hu : IsInts uw T) (hT : ∀ i, i < T.length → 0 ≤ nth T i ∧ nth T i ≤ 31) (hTl : T.length ≤ 31) (s : RingOk v l) : ∀ (k i : Nat) (best : List Int) (bv : AV) (m : Mem), i + k = T.length → IsInts bv best → best.length = l.length →
    ∃ w', IsInts w' (cT v l (T.drop i) best) ∧ strap_canon.L0 (.int .i64 v) w bv uw (.int .i64 T.length) (.int .i64 i) m [.code strap_canon.r13, .code .ret] = some (w', Mem.empty) := by
  intro k
  have hfew := s.few
  have hpos := s.pos
  induction k with
  | zero =>
    intro i best bv m h1 hb hl
    have e : i = T.length := by omega
    subst e
    have e1 : T.drop T.length = [] := List.drop_of_length_le (by omega)
    rw [e1]
    rcases hb with ⟨rfl, rfl⟩ | ⟨ex, rfl⟩
    · simp at hl; omega
    · refine ⟨.fsl false best.length (ints best), .inr ⟨false, rfl⟩, ?_⟩
      obtain ⟨m', c1, c2, c3⟩ := clone_spec ex best (by omega) (by omega) m
      rw [strap_canon.L0_eq]
      simp [c3, c1]
      done
  | succ k ih =>
    intro i best bv m h1 hb hl
    have hi : i < T.length := by omega
    obtain ⟨bv', g1, g2⟩ := can_in (uw := uw) hv s (hT i hi) T.length i ⟨by omega, by omega⟩ [.code strap_canon.r13, .code .ret] v 0 best bv m (by omega) hb hl
    simp only [Int.ofNat_zero, Int.cast_ofNat_Int] at g2
    obtain ⟨w', k1, k2⟩ := ih (i + 1) (cF v (nth T i) l v 0 best) bv' m (by omega) g1 (cF_len hl)
    simp only [Int.natCast_add, Int.cast_ofNat_Int] at k2
    have e : cT v l (T.drop i) best = cT v l (T.drop (i + 1)) (cF v (nth T i) l v 0 best) := by rw [drop_nth hi]; rfl
    refine ⟨w', by rw [e]; exact k1, ?_⟩
    rw [← k2, ← g2, strap_canon.L0_eq]
    simp [hi, hu.idx hi, ints_head hi]
    done
def canonL (v : Nat) (l : List Int) : List Int := cT v l (unitsL v) l
theorem canon_spec {w : AV} {v : Nat} {l : List Int} (hv : IsInts w l) (s : RingOk v l) : ∃ w', IsInts w' (canonL v l) ∧ ∀ m, denC prog ann 63 [.int .i64 v, w] m = some (w', m) := by
  have hcl : closedL [.int .i64 v, w] = true := by simp [hv.closed]
  have hv31 := s.v31
  have hu := intsV_is (unitsL v)
  have hf := unitsL_few v
  obtain ⟨w', h1, h2⟩ := can_out hv hu (unitsL_rng (by omega)) (by omega) s (unitsL v).length 0 l w Mem.empty (by omega) hv rfl
  rw [List.drop_zero] at h1
  simp only [Int.ofNat_zero, Int.cast_ofNat_Int] at h2
  have hus := fun m => units_spec (v := v) (by omega) m
  refine ⟨w', h1, fun m => ?_⟩
  rw [strap_canon.call_eq _ _ _ hcl]
  simp [hus, hu.len, h2]
  done
theorem Canon_spec {w : AV} {v : Nat} {l : List Int} (hv : IsInts w l) (s : RingOk v l) (hr : ∀ m, denC prog ann 55 [.int .i64 v, w] m = some (.int .i64 0, m)) : ∃ w', IsInts w' (canonL v l) ∧ ∀ m, denC prog ann 35 [.int .i64 v, w] m = some (.tup [w', .int .i64 0], m) := by
  have hcl : closedL [.int .i64 v, w] = true := by simp [hv.closed]
  obtain ⟨w', h1, h2⟩ := canon_spec hv s
  refine ⟨w', h1, fun m => ?_⟩
  rw [strap_Canon.call_eq _ _ _ hcl]
  simp [hv.closed, hr, h2, h1.deep]
  done
end Go.Proofs.Ytpghadmpegncgaa

/-
  STRAPS (28): the specification's least set. Conditions: none.
-/
namespace Go.Proofs.Ytpghadmpegncgaa
open Go.AM
open Go.Proofs.Try (prog)
set_option linter.all false
set_option maxRecDepth 100000
set_option maxHeartbeats 4000000

end Go.Proofs.Ytpghadmpegncgaa

/-
  STRAPS (29): what a set becomes, multiplied and moved, is an orbit; its least set does not hang on which one of them it is asked for. Conditions: none.
-/
namespace Go.Proofs.Ytpghadmpegncgaa
open Go.AM
set_option linter.all false
set_option maxRecDepth 100000
set_option maxHeartbeats 4000000

theorem RingOk.mem {v : Int} {l : List Int} (s : RingOk v l) {x : Int} (h : x ∈ l) : 0 ≤ x ∧ x < v := by
  obtain ⟨i, hi, rfl⟩ := List.getElem_of_mem h
  have := s.rng i hi
  simpa [nth, List.getD, hi] using this
theorem RingOk.pw {v : Int} {l : List Int} (s : RingOk v l) : l.Pairwise (· < ·) := by
  rw [List.pairwise_iff_getElem]
  intro i j hi hj hij
  have := s.lt hij hj
  simpa [nth, List.getD, hi, hj] using this
theorem ring_of {v : Int} {l : List Int} (h2 : 2 ≤ v) (h31 : v ≤ 31) (hp : 0 < l.length) (hf : l.length ≤ 31) (hm : ∀ x ∈ l, 0 ≤ x ∧ x < v) (hs : l.Pairwise (· < ·)) : RingOk v l := by
  refine ⟨h2, h31, hp, hf, fun i hi => ?_, fun i hi => ?_⟩
  · have : nth l i = l[i] := by simp [nth, List.getD, hi]
    rw [this]; exact hm _ (List.getElem_mem hi)
  · have h1 := List.pairwise_iff_getElem.1 hs i (i + 1) (by omega) hi (by omega)
    have : i < l.length := by omega
    simpa [nth, List.getD, hi, this] using h1
theorem sort_lt {l : List Int} (h : l.Nodup) : (sortI l).Pairwise (· < ·) := by
  have h1 := sortI_sorted l
  have h2 : (sortI l).Nodup := (sortI_perm l).nodup_iff.2 h
  have h3 := h1.and h2
  exact h3.imp fun ⟨a, b⟩ => by omega
theorem mem_mvL {v t s x : Int} {l : List Int} : x ∈ mvL v t s l ↔ ∃ y ∈ l, mvF v t s y = x := by
  rw [mvL, (sortI_perm _).mem_iff, List.mem_map]
theorem mv_pos {v : Nat} {t : Nat} {s x : Int} (hs : 0 ≤ s) (hx : 0 ≤ x) : 0 ≤ x * (t : Int) + s := by
  have := Int.mul_nonneg hx (by omega : 0 ≤ (t : Int)); omega
theorem ring_mv {v t : Nat} {s : Int} {l : List Int} (r : RingOk v l) (hg : Nat.gcd t v = 1) (hs : 0 ≤ s) : RingOk v (mvL v t s l) := by
  have hv := r.v2
  have h31 := r.v31
  have hp := r.pos
  have hf := r.few
  refine ring_of hv h31 (by rw [mvL_len]; omega) (by rw [mvL_len]; omega) (fun x hx => ?_) (sort_lt ?_)
  · obtain ⟨y, hy, rfl⟩ := mem_mvL.1 hx
    have := r.mem hy
    have := mvF_rng (v := v) (by omega) (mv_pos (v := v) (t := t) hs this.1)
    exact ⟨this.1, this.2.1⟩
  · rw [List.nodup_iff_pairwise_ne, List.pairwise_map]
    refine r.pw.imp_of_mem fun {a b} ha hb hab e => ?_
    have := mvF_inj hg hs (r.mem ha) (r.mem hb) e
    omega
theorem ring_eq {v : Int} {a b : List Int} (ra : RingOk v a) (rb : RingOk v b) (h : ∀ x, x ∈ a ↔ x ∈ b) : a = b := by
  have na : a.Nodup := ra.pw.imp fun h e => by omega
  have nb : b.Nodup := rb.pw.imp fun h e => by omega
  exact sorted_uniq (ra.pw.imp fun h => by omega) (rb.pw.imp fun h => by omega) ((List.perm_ext_iff_of_nodup na nb).2 h)
theorem mvF_comp {v t t' : Nat} {s s' x : Int} (hv : 0 < v) (hs : 0 ≤ s) (hs' : 0 ≤ s') (hx : 0 ≤ x) : mvF v t' s' (mvF v t s x) = mvF v ((t * t' % v : Nat) : Int) ((s * t' + s') % v) x := by
  have p1 := mvF_rng (v := v) hv (mv_pos (v := v) (t := t) hs hx)
  have p2 := mvF_rng (v := v) hv (mv_pos (v := v) (t := t') hs' p1.1)
  have p4 : 0 ≤ (s * (t' : Int) + s') % v := Int.emod_nonneg _ (by omega)
  have p3 := mvF_rng (v := v) hv (mv_pos (v := v) (t := t * t' % v) p4 hx)
  rw [p2.2.2, p3.2.2, p1.2.2]
  rw [Int.natCast_emod, Int.natCast_mul]
  rw [Int.add_emod (((x * t + s) % v) * (t' : Int)) s', Int.mul_emod ((x * (t : Int) + s) % v) t', Int.emod_emod, ← Int.mul_emod, ← Int.add_emod]
  rw [Int.add_emod (x * ((t : Int) * t' % v)) ((s * (t' : Int) + s') % v), Int.emod_emod, Int.mul_emod x ((t : Int) * t' % v), Int.emod_emod, ← Int.mul_emod, ← Int.add_emod]
  congr 1
  rw [Int.add_mul, Int.mul_assoc, Int.add_assoc]
theorem gcd_mulmod {v t t' : Nat} (h : Nat.gcd t v = 1) (h' : Nat.gcd t' v = 1) : Nat.gcd (t * t' % v) v = 1 := by
  rw [← Nat.gcd_rec, Nat.gcd_comm]
  exact Nat.Coprime.mul_left h h'
theorem mvL_comp {v t t' : Nat} {s s' : Int} {l : List Int} (r : RingOk v l) (hg : Nat.gcd t v = 1) (hg' : Nat.gcd t' v = 1) (hs : 0 ≤ s) (hs' : 0 ≤ s') : mvL v t' s' (mvL v t s l) = mvL v ((t * t' % v : Nat) : Int) ((s * t' + s') % v) l := by
  have hv : 0 < v := by have := r.v2; omega
  have p4 : 0 ≤ (s * (t' : Int) + s') % v := Int.emod_nonneg _ (by omega)
  refine ring_eq (v := v) (ring_mv (ring_mv r hg hs) hg' hs') (ring_mv r (gcd_mulmod hg hg') p4) fun x => ?_
  rw [mem_mvL, mem_mvL]
  constructor
  · rintro ⟨y, hy, rfl⟩
    obtain ⟨z, hz, rfl⟩ := mem_mvL.1 hy
    exact ⟨z, hz, (mvF_comp hv hs hs' (r.mem hz).1).symm⟩
  · rintro ⟨z, hz, rfl⟩
    exact ⟨_, mem_mvL.2 ⟨z, hz, rfl⟩, mvF_comp hv hs hs' (r.mem hz).1⟩
theorem mvL_one {v : Nat} {l : List Int} (r : RingOk v l) : mvL v 1 0 l = l := by
  have hv : 0 < v := by have := r.v2; omega
  have key : ∀ y ∈ l, mvF v ((1 : Nat) : Int) 0 y = y := fun y hy => by
    have m := r.mem hy
    rw [(mvF_rng (v := v) hv (mv_pos (v := v) (t := 1) (Int.le_refl 0) m.1)).2.2]
    rw [show y * ((1 : Nat) : Int) + 0 = y by omega]
    exact Int.emod_eq_of_lt m.1 m.2
  refine ring_eq (v := v) (ring_mv (t := 1) r (by simp) (Int.le_refl 0)) r fun x => ?_
  rw [mem_mvL]
  constructor
  · rintro ⟨y, hy, rfl⟩
    have e : mvF v 1 0 y = y := key y hy
    rw [e]; exact hy
  · intro h
    exact ⟨x, h, key x h⟩
def invB (v t : Nat) : Bool := !(decide (Nat.gcd t v = 1)) || (List.range v).any fun u => decide (Nat.gcd u v = 1) && decide (t * u % v = 1)
theorem inv_all : ((List.range 32).all fun v => decide (v < 2) || (List.range v).all fun t => invB v t) = true := by decide +kernel
theorem inv_ex {v t : Nat} (h2 : 2 ≤ v) (h31 : v ≤ 31) (ht : t < v) (hg : Nat.gcd t v = 1) : ∃ u, u < v ∧ Nat.gcd u v = 1 ∧ t * u % v = 1 := by
  have h := List.all_eq_true.1 inv_all v (List.mem_range.2 (by omega))
  rw [Bool.or_eq_true] at h
  rcases h with h' | h'
  · simp at h'; omega
  · have h3 := List.all_eq_true.1 h' t (List.mem_range.2 ht)
    unfold invB at h3
    simp only [hg, decide_true, Bool.not_true, Bool.false_or, List.any_eq_true, List.mem_range, Bool.and_eq_true, decide_eq_true_eq] at h3
    exact h3
/-- What it may become. -/
def Orb (v : Nat) (l o : List Int) : Prop := ∃ t : Nat, ∃ s : Int, t < v ∧ Nat.gcd t v = 1 ∧ 0 ≤ s ∧ s < v ∧ o = mvL v t s l
theorem Orb.ring {v : Nat} {l o : List Int} (r : RingOk v l) (h : Orb v l o) : RingOk v o := by
  obtain ⟨t, s, h1, h2, h3, h4, rfl⟩ := h
  exact ring_mv r h2 h3
theorem Orb.refl {v : Nat} {l : List Int} (r : RingOk v l) : Orb v l l := ⟨1, 0, by have := r.v2; omega, by simp, by omega, by have := r.v2; omega, (mvL_one r).symm⟩
theorem Orb.trans {v : Nat} {l o p : List Int} (r : RingOk v l) (h : Orb v l o) (k : Orb v o p) : Orb v l p := by
  obtain ⟨t, s, h1, h2, h3, h4, rfl⟩ := h
  obtain ⟨t', s', k1, k2, k3, k4, rfl⟩ := k
  have hv : 0 < v := by omega
  exact ⟨t * t' % v, (s * t' + s') % v, Nat.mod_lt _ hv, gcd_mulmod h2 k2, Int.emod_nonneg _ (by omega), Int.emod_lt_of_pos _ (by omega), mvL_comp r h2 k2 h3 k3⟩
theorem Orb.symm {v : Nat} {l o : List Int} (r : RingOk v l) (h : Orb v l o) : Orb v o l := by
  obtain ⟨t, s, h1, h2, h3, h4, rfl⟩ := h
  have hv2 := r.v2
  have hv31 := r.v31
  obtain ⟨u, u1, u2, u3⟩ := inv_ex (by omega) (by omega) h1 h2
  have p : 0 ≤ (-(s * u)) % (v : Int) := Int.emod_nonneg _ (by omega)
  refine ⟨u, (-(s * u)) % v, u1, u2, p, Int.emod_lt_of_pos _ (by omega), ?_⟩
  rw [mvL_comp r h2 u2 h3 p, u3]
  have e : (s * (u : Int) + -(s * u) % v) % v = 0 := by
    rw [Int.add_emod, Int.emod_emod, ← Int.add_emod]
    rw [show s * (u : Int) + -(s * u) = 0 by omega]; rfl
  rw [e]
  exact (mvL_one r).symm
/-! ### The least one -/
theorem lex_le_trans {a b c : List Int} (h : lexLt b a = false) (k : lexLt c b = false) : lexLt c a = false := by
  cases e : lexLt c a with
  | false => rfl
  | true =>
    cases e2 : lexLt a b with
    | true => rw [lex_trans e e2] at k; cases k
    | false =>
      have := lexLt_total h e2
      subst this
      rw [e] at k; cases k
theorem lex_lt_le {a b : List Int} (h : lexLt a b = true) : lexLt b a = false := by
  cases e : lexLt b a with
  | false => rfl
  | true => have := lex_trans h e; rw [lexLt_irr] at this; cases this
theorem cStep_le {v : Nat} {t : Int} {l best : List Int} {s : Nat} : lexLt best (cStep v t l best s) = false ∧ lexLt (mvL v t (s : Int) l) (cStep v t l best s) = false := by
  unfold cStep
  split
  · rename_i h
    exact ⟨lex_lt_le h, lexLt_irr _⟩
  · rename_i h
    exact ⟨lexLt_irr _, by simpa using h⟩
theorem cF_le {v : Nat} {t : Int} {l : List Int} : ∀ (k s : Nat) (best : List Int), lexLt best (cF v t l k s best) = false ∧ ∀ j, s ≤ j → j < s + k → lexLt (mvL v t (j : Int) l) (cF v t l k s best) = false
  | 0, s, best => ⟨lexLt_irr _, fun j h1 h2 => by omega⟩
  | k + 1, s, best => by
    rw [cF_succ]
    obtain ⟨h1, h2⟩ := cF_le k (s + 1) (cStep v t l best s)
    have h3 := cStep_le (v := v) (t := t) (l := l) (best := best) (s := s)
    refine ⟨lex_le_trans h1 h3.1, fun j j1 j2 => ?_⟩
    by_cases e : j = s
    · subst e; exact lex_le_trans h1 h3.2
    · exact h2 j (by omega) (by omega)
theorem cF_in {v t : Nat} {l : List Int} (ht : t < v) (hg : Nat.gcd t v = 1) : ∀ (k s : Nat) (best : List Int), s + k ≤ v → Orb v l best → Orb v l (cF v t l k s best)
  | 0, s, best, _, h => h
  | k + 1, s, best, h, hb => by
    rw [cF_succ]
    refine cF_in ht hg k (s + 1) _ (by omega) ?_
    unfold cStep
    split
    · exact ⟨t, s, ht, hg, by omega, by omega, rfl⟩
    · exact hb
theorem cT_le {v : Nat} {l : List Int} : ∀ (T best : List Int), lexLt best (cT v l T best) = false ∧ ∀ t ∈ T, ∀ j : Nat, j < v → lexLt (mvL v t (j : Int) l) (cT v l T best) = false
  | [], best => ⟨lexLt_irr _, fun t h => by cases h⟩
  | t :: T, best => by
    have e : cT v l (t :: T) best = cT v l T (cF v t l v 0 best) := rfl
    rw [e]
    obtain ⟨h1, h2⟩ := cT_le T (cF v t l v 0 best)
    obtain ⟨h3, h4⟩ := cF_le (v := v) (t := t) (l := l) v 0 best
    refine ⟨lex_le_trans h1 h3, fun u hu j hj => ?_⟩
    rcases List.mem_cons.1 hu with rfl | hu
    · exact lex_le_trans h1 (h4 j (by omega) (by omega))
    · exact h2 u hu j hj
theorem cT_in {v : Nat} {l : List Int} : ∀ (T best : List Int), (∀ x ∈ T, ∃ t : Nat, x = t ∧ t < v ∧ Nat.gcd t v = 1) → Orb v l best → Orb v l (cT v l T best)
  | [], best, _, h => h
  | x :: T, best, hT, hb => by
    have e : cT v l (x :: T) best = cT v l T (cF v x l v 0 best) := rfl
    rw [e]
    obtain ⟨t, rfl, h1, h2⟩ := hT x (by simp)
    exact cT_in T _ (fun y hy => hT y (by simp [hy])) (cF_in h1 h2 v 0 best (by omega) hb)
theorem mem_units {v t : Nat} : (t : Int) ∈ unitsL v ↔ t < v ∧ Nat.gcd t v = 1 := by
  constructor
  · intro h
    obtain ⟨u, e, _, h2, h3⟩ := mem_uniF h
    have : t = u := by omega
    subst this
    exact ⟨by omega, h3⟩
  · rintro ⟨h1, h2⟩
    rw [unitsL, uniF, List.mem_map]
    refine ⟨t, ?_, rfl⟩
    rw [List.mem_filter]
    exact ⟨by simp [List.mem_range'_1]; omega, by simpa using h2⟩
theorem canon_in {v : Nat} {l : List Int} (r : RingOk v l) : Orb v l (canonL v l) :=
  cT_in _ _ (fun x hx => by obtain ⟨t, e, _, h2, h3⟩ := mem_uniF hx; exact ⟨t, e, by omega, h3⟩) (Orb.refl r)
theorem canon_le {v : Nat} {l o : List Int} (r : RingOk v l) (h : Orb v l o) : lexLt o (canonL v l) = false := by
  obtain ⟨t, s, h1, h2, h3, h4, rfl⟩ := h
  have := (cT_le (v := v) (l := l) (unitsL v) l).2 t (mem_units.2 ⟨h1, h2⟩) s.toNat (by omega)
  rwa [show ((s.toNat : Nat) : Int) = s by omega] at this
/-- THE SAME LEAST SET. -/
theorem canon_orb {v : Nat} {l o : List Int} (r : RingOk v l) (h : Orb v l o) : canonL v o = canonL v l := by
  have ro := h.ring r
  have hb := h.symm r
  have h1 := canon_le r (h.trans r (canon_in ro))
  have h2 := canon_le ro (hb.trans ro (canon_in r))
  exact lexLt_total h1 h2
/-! ### Multipliers -/
theorem fnd_iff {v : Nat} {t : Int} {l : List Int} : fndF v t l v 0 = true ↔ ∃ s : Int, 0 ≤ s ∧ s < v ∧ mvL v t s l = l := by
  unfold fndF
  rw [List.any_eq_true]
  constructor
  · rintro ⟨b, hb, h⟩
    simp [List.mem_range'_1] at hb
    exact ⟨b, by omega, by omega, by simpa using h⟩
  · rintro ⟨s, h1, h2, h3⟩
    refine ⟨s.toNat, by simp [List.mem_range'_1]; omega, ?_⟩
    rw [show ((s.toNat : Nat) : Int) = s by omega]
    simpa using h3
theorem mul_orb1 {v t : Nat} {l o : List Int} (r : RingOk v l) (h : Orb v l o) (ht : t < v) (hg : Nat.gcd t v = 1) (hf : ∃ s : Int, 0 ≤ s ∧ s < v ∧ mvL v t s l = l) : ∃ s : Int, 0 ≤ s ∧ s < v ∧ mvL v t s o = o := by
  obtain ⟨u, b, h1, h2, h3, h4, rfl⟩ := h
  obtain ⟨s, k1, k2, k3⟩ := hf
  have hv : 0 < v := by omega
  have p : 0 ≤ (s * u + b - b * t) % (v : Int) := Int.emod_nonneg _ (by omega)
  refine ⟨(s * u + b - b * t) % v, p, Int.emod_lt_of_pos _ (by omega), ?_⟩
  rw [mvL_comp r h2 hg h3 p]
  have e1 : (b * (t : Int) + (s * u + b - b * t) % v) % v = (s * u + b) % v := by
    rw [Int.add_emod, Int.emod_emod, ← Int.add_emod]
    congr 1; omega
  rw [e1]
  have e2 := mvL_comp r hg h2 k1 h3
  rw [k3] at e2
  rw [Nat.mul_comm u t, ← e2]
theorem mults_orb {v : Nat} {l o : List Int} (r : RingOk v l) (h : Orb v l o) : multsL v o = multsL v l := by
  have ro := h.ring r
  unfold multsL
  refine List.filter_congr fun x hx => ?_
  obtain ⟨t, rfl, _, h2, h3⟩ := mem_uniF hx
  rw [Bool.eq_iff_iff, fnd_iff, fnd_iff]
  exact ⟨mul_orb1 ro (h.symm r) (by omega) h3, mul_orb1 r h (by omega) h3⟩
end Go.Proofs.Ytpghadmpegncgaa

/-
  STRAPS (30): a set that is read off the bits of a number. Conditions: none.
-/
namespace Go.Proofs.Ytpghadmpegncgaa
open Go.AM
open Go.Proofs.Try (prog)
set_option linter.all false
set_option maxRecDepth 100000
set_option maxHeartbeats 4000000

theorem u50 : prog.underlying 50 = some (.int .u32) := by kernel_rfl
theorem u51 : prog.underlying 51 = some (.array 2 5) := by kernel_rfl
theorem datV50 {d : Nat} {a : AV} (h : DatV prog (d + 1) 50 a) : ∃ n, a = .int .u32 n := by
  simp only [DatV, u50, Dat] at h
  obtain ⟨n, e, _⟩ := h
  exact ⟨n, by simpa using e⟩
theorem parts_two {α : Type} : ∀ {l : List α}, l.length = 2 → ∃ a b, l = [a, b]
  | [a, b], _ => ⟨a, b, rfl⟩
  | [], h => by cases h
  | [_], h => by cases h
  | _ :: _ :: _ :: _, h => by simp at h
theorem datV51 {d : Nat} {a : AV} (h : DatV prog (d + 2) 51 a) : ∃ x y, a = .agg [.int .u8 x, .int .u8 y] ∧ 0 ≤ x ∧ x ≤ 255 ∧ 0 ≤ y ∧ y ≤ 255 := by
  simp only [DatV, u51] at h
  obtain ⟨cs, rfl, h⟩ := h
  rw [Dat] at h
  simp only [u51] at h
  obtain ⟨parts, rfl, hl, hp⟩ := h
  obtain ⟨p, q, rfl⟩ := parts_two hl
  obtain ⟨x, rfl, h1, h2⟩ := dat5 (hp p (by simp)).2
  obtain ⟨y, rfl, h3, h4⟩ := dat5 (hp q (by simp)).2
  exact ⟨x, y, rfl, h1, h2, h3, h4⟩
theorem bit_ex (x : Int) (d : Nat) : ∃ (b : Bool), ∃ (y z : AV), binA prog .shr 50 (.int .u32 x) (.int .i64 (d : Int)) = some y ∧ binA prog .and 50 y (.int .u32 1) = some z ∧ binA prog .eql 50 z (.int .u32 1) = some (.bool b) := by
  have h1 : binA prog .shr 50 (.int .u32 x) (.int .i64 (d : Int)) = some (.int .u32 (x.fdiv (2 ^ min (d : Int).toNat (IntKind.bits .u32)))) := by
    rw [binA_shr, show decide ((d : Int) < 0) = false from decide_eq_false (by omega)]; rfl
  generalize x.fdiv (2 ^ min (d : Int).toNat (IntKind.bits .u32)) = y at h1
  have h2 := binA_and prog 50 .u32 y 1
  generalize IntKind.wrap .u32 (((BitVec.ofInt (IntKind.bits .u32) y &&& BitVec.ofInt (IntKind.bits .u32) 1).toNat : Nat) : Int) = z at h2
  exact ⟨_, _, _, h1, h2, binA_eql prog 50 .u32 z 1⟩
/-- Is the bit set? -/
noncomputable def sb (x : Int) (d : Nat) : Bool := (bit_ex x d).choose
theorem sb_spec (x : Int) (d : Nat) : ∃ (y z : AV), binA prog .shr 50 (.int .u32 x) (.int .i64 (d : Int)) = some y ∧ binA prog .and 50 y (.int .u32 1) = some z ∧ binA prog .eql 50 z (.int .u32 1) = some (.bool (sb x d)) := (bit_ex x d).choose_spec
noncomputable def setF (x : Int) (k i : Nat) : List Int := ((List.range' i k).filter fun t => sb x t).map fun t : Nat => (t : Int)
theorem setF_succ (x : Int) (k i : Nat) : setF x (k + 1) i = if sb x i = true then (i : Int) :: setF x k (i + 1) else setF x k (i + 1) := by
  simp only [setF, List.range'_succ, List.filter_cons]
  split <;> simp_all
theorem mem_setF {x : Int} {k i : Nat} {y : Int} (h : y ∈ setF x k i) : 0 ≤ y ∧ y < i + k := by
  rw [setF, List.mem_map] at h
  obtain ⟨t, h1, rfl⟩ := h
  rw [List.mem_filter] at h1
  have h2 := h1.1
  simp [List.mem_range'_1] at h2
  omega
theorem setF_sorted (x : Int) (k i : Nat) : (setF x k i).Pairwise (· < ·) := by
  rw [setF, List.pairwise_map]
  exact ((range_sorted k i).filter _).imp fun h => by omega
theorem setF_few (x : Int) (k i : Nat) : (setF x k i).length ≤ k := by
  have := List.length_filter_le (fun t => sb x t) (List.range' i k)
  simp only [setF, List.length_map]; simpa using this
theorem ring_set1 {v : Nat} (h2 : 2 ≤ v) (h31 : v ≤ 31) {x : Int} (h : setF x v 0 ≠ []) : RingOk v (setF x v 0) := by
  have hf := setF_few x v 0
  have hp : 0 < (setF x v 0).length := List.length_pos_iff.2 h
  exact ring_of (by omega) (by omega) hp (by omega) (fun y hy => by have := mem_setF hy; omega) (setF_sorted x v 0)
theorem ring_zero {v : Nat} (h2 : 2 ≤ v) (h31 : v ≤ 31) : RingOk v [0] :=
  ring_of (by omega) (by omega) (by decide) (by decide) (fun y hy => by simp at hy; omega) (by simp)
theorem ring_err {w : AV} {l : List Int} (hv : IsInts w l) {v : Int} (s : RingOk v l) : ∀ m, denC prog ann 55 [.int .i64 v, w] m = some (.int .i64 0, m) := by
  obtain ⟨e, he, hr, _⟩ := ring_set hv (by have := s.few; omega) v
  have := he.uniq (.ok s)
  subst this
  exact hr
theorem gcd_last : ((List.range 32).all fun v => decide (v < 2) || decide (Nat.gcd (v - 1) v = 1)) = true := by decide +kernel
theorem gcd_pred {v : Nat} (h2 : 2 ≤ v) (h31 : v ≤ 31) : Nat.gcd (v - 1) v = 1 := by
  have h := List.all_eq_true.1 gcd_last v (List.mem_range.2 (by omega))
  rw [Bool.or_eq_true] at h
  rcases h with h | h
  · simp at h; omega
  · simpa using h
theorem cT_len {v : Nat} {l : List Int} : ∀ {T best : List Int}, best.length = l.length → (cT v l T best).length = l.length
  | [], _, h => h
  | t :: T, best, h => cT_len (T := T) (best := cF v t l v 0 best) (cF_len h)
theorem canonL_len (v : Nat) (l : List Int) : (canonL v l).length = l.length := cT_len rfl
end Go.Proofs.Ytpghadmpegncgaa

/-
  BODIES OF FUNCTIONS OF THE PROGRAM AS SMALL OPERATIONS (written by gen.py; checked by the kernel against the program). Conditions: none.
-/
namespace Go.Proofs.Ytpghadmpegncgaa
open Go.AM
open Go.Proofs.Try (prog)
set_option maxRecDepth 100000
set_option linter.all false

namespace l04_StrapCanons
/-- pommel/pommellaw04.StrapCanons -/
noncomputable def b : Code := (Try.f11.body).getD .skip
theorem hf : prog.funcs[11]? = some Try.f11 := by kernel_rfl
noncomputable def r0 : Code := findReg b 0
noncomputable def r1 : Code := findReg b 1
noncomputable def r2 : Code := findReg b 2
noncomputable def k0 : Code := findBlk b 0
noncomputable def l0 : Code := loopOf k0
noncomputable def L0 (x1 x5 x7 x8 x9 : AV) (m : Mem) (K : List Item) : Option Res := den prog ann 11 (.code l0 :: .inLoop l0 :: .inBlock 0 :: K) ⟨[(1, x1), (5, x5), (7, x7), (8, x8), (9, x9)], 138, m⟩
noncomputable def r3 : Code := findReg b 3
noncomputable def i0 : Code := findCond b 0
noncomputable def i0t : Code := thenOf i0
noncomputable def i0e : Code := elseOf i0
noncomputable def k1 : Code := findBlk b 1
noncomputable def r5 : Code := findReg b 5
noncomputable def i1 : Code := findCond b 1
noncomputable def i1t : Code := thenOf i1
noncomputable def i1e : Code := elseOf i1
noncomputable def r6 : Code := findReg b 6
noncomputable def r4 : Code := findReg b 4
noncomputable def r7 : Code := findReg b 7
noncomputable def i2 : Code := findCond b 2
noncomputable def i2t : Code := thenOf i2
noncomputable def i2e : Code := elseOf i2
noncomputable def r8 : Code := findReg b 8
noncomputable def r9 : Code := findReg b 9
noncomputable def k2 : Code := findBlk b 2
noncomputable def l2 : Code := loopOf k2
noncomputable def L2 (x5 x7 x8 x10 : AV) (m : Mem) (K : List Item) : Option Res := den prog ann 11 (.code l2 :: .inLoop l2 :: .inBlock 2 :: K) ⟨[(5, x5), (7, x7), (8, x8), (10, x10)], 138, m⟩
noncomputable def r10 : Code := findReg b 10
noncomputable def i3 : Code := findCond b 3
noncomputable def i3t : Code := thenOf i3
noncomputable def i3e : Code := elseOf i3
noncomputable def k3 : Code := findBlk b 3
noncomputable def r11 : Code := findReg b 11
noncomputable def r12 : Code := findReg b 12
noncomputable def r13 : Code := findReg b 13
noncomputable def r14 : Code := findReg b 14
noncomputable def r15 : Code := findReg b 15
noncomputable def r16 : Code := findReg b 16
noncomputable def r17 : Code := findReg b 17
noncomputable def r18 : Code := findReg b 18
theorem b_eq (K : List Item) (s : St) : den prog ann 11 (.code b :: K) s = den prog ann 11 (.code r0 :: .code r1 :: .code r2 :: .code k0 :: .code r7 :: .code i2 :: .code r9 :: .code k2 :: .code r12 :: .code r13 :: .code r14 :: .code r15 :: .code r16 :: .code r17 :: .code r18 :: .code .ret :: K) s := den_flat hf (l := [r0, r1, r2, k0, r7, i2, r9, k2, r12, r13, r14, r15, r16, r17, r18, .ret]) (by kernel_rfl) K s
theorem r0_eq (K : List Item) (s : St) : den prog ann 11 (.code r0 :: K) s = mreg prog ann 11 none [] none [] [
    ⟨some 5, none, .v fun s => frozenPtr (s.get 2)⟩,
    ⟨some 6, none, .v fun s => some (.bool false)⟩] K s := (den_reg hf _ K s).trans (by kernel_rfl)
theorem r1_eq (K : List Item) (s : St) : den prog ann 11 (.code r1 :: K) s = mreg prog ann 11 none [] none [] [
    ⟨some 22, none, .v fun s => some (s.get 0)⟩,
    ⟨some 23, none, .v fun s => convInt .i64 (s.get 22)⟩,
    ⟨some 24, none, .v fun s => binA prog .rem 3 (s.get 23) (.int .i64 30)⟩,
    ⟨some 25, none, .v fun s => binA prog .add 3 (s.get 24) (.int .i64 2)⟩,
    ⟨some 26, none, .w false none fun s => bslM s.m 0 (bslA 1 0 [.int .i64 0] [])⟩,
    ⟨some 7, none, .v fun s => some (s.get 25)⟩,
    ⟨some 8, none, .v fun s => some (s.get 26)⟩] K s := (den_reg hf _ K s).trans (by kernel_rfl)
theorem r2_eq (K : List Item) (s : St) : den prog ann 11 (.code r2 :: K) s = mreg prog ann 11 none [] none [] [
    ⟨some 9, none, .v fun s => some (.int .i64 0)⟩] K s := (den_reg hf _ K s).trans (by kernel_rfl)
theorem k0_eq (K : List Item) (t : List (Nat × AV)) (m : Mem) : den prog ann 11 (.code k0 :: K) ⟨t, 138, m⟩ = L0 (get t 1) (get t 5) (get t 7) (get t 8) (get t 9) m K := den_loop_enter hf (b := l0) (id := 3) (l := [1, 5, 7, 8, 9]) (by kernel_rfl) (by kernel_rfl) (by kernel_rfl) K _
theorem l0_eq (K : List Item) (t : List (Nat × AV)) (m : Mem) : den prog ann 11 (.inLoop l0 :: .inBlock 0 :: K) ⟨t, 138, m⟩ = L0 (get t 1) (get t 5) (get t 7) (get t 8) (get t 9) m K := den_loop_again hf (id := 3) (l := [1, 5, 7, 8, 9]) (by kernel_rfl) (by kernel_rfl) (.inBlock 0 :: K) _
theorem L0_eq (x1 x5 x7 x8 x9 : AV) (m : Mem) (K : List Item) : L0 x1 x5 x7 x8 x9 m K = den prog ann 11 (.code r3 :: .code i0 :: .code k1 :: .code r4 :: .inLoop l0 :: .inBlock 0 :: K) ⟨[(1, x1), (5, x5), (7, x7), (8, x8), (9, x9)], 138, m⟩ := den_flat hf (l := [r3, i0, k1, r4]) (by kernel_rfl) _ _
theorem r3_eq (K : List Item) (s : St) : den prog ann 11 (.code r3 :: K) s = mreg prog ann 11 (some [1, 5, 7, 8, 9]) [] none [] [
    ⟨some 27, none, .v fun s => some (s.get 9)⟩,
    ⟨some 28, none, .v fun s => some (s.get 7)⟩,
    ⟨some 29, none, .v fun s => binA prog .lss 3 (s.get 27) (s.get 28)⟩] K s := (den_reg hf _ K s).trans (by kernel_rfl)
theorem i0_eq (K : List Item) (s : St) : den prog ann 11 (.code i0 :: K) s = ifV prog ann 11 29 i0t i0e K s (s.get 29) := den_if hf (by kernel_rfl) K s
theorem i0t_eq (K : List Item) (s : St) : den prog ann 11 (.code i0t :: K) s = den prog ann 11 (K) s := den_flat hf (l := []) (by kernel_rfl) K s
theorem i0e_eq (K : List Item) (s : St) : den prog ann 11 (.code i0e :: K) s = den prog ann 11 (.code (.exit 0) :: K) s := den_flat hf (l := [(.exit 0)]) (by kernel_rfl) K s
theorem k1_eq (K : List Item) (s : St) : den prog ann 11 (.code k1 :: K) s = den prog ann 11 (.code r5 :: .code i1 :: .inBlock 1 :: K) s := den_blk hf (b := blkOf k1) (l := [r5, i1]) (by kernel_rfl) (by kernel_rfl) K s
theorem r5_eq (K : List Item) (s : St) : den prog ann 11 (.code r5 :: K) s = mreg prog ann 11 none [] none [] [
    ⟨some 32, none, .v fun s => some (s.get 1)⟩,
    ⟨some 33, none, .v fun s => some (s.get 9)⟩,
    ⟨some 34, none, .v fun s => binA prog .shr 50 (s.get 32) (s.get 33)⟩,
    ⟨some 35, none, .v fun s => binA prog .and 50 (s.get 34) (.int .u32 1)⟩,
    ⟨some 36, none, .v fun s => binA prog .eql 50 (s.get 35) (.int .u32 1)⟩] K s := (den_reg hf _ K s).trans (by kernel_rfl)
theorem i1_eq (K : List Item) (s : St) : den prog ann 11 (.code i1 :: K) s = ifV prog ann 11 36 i1t i1e K s (s.get 36) := den_if hf (by kernel_rfl) K s
theorem i1t_eq (K : List Item) (s : St) : den prog ann 11 (.code i1t :: K) s = den prog ann 11 (.code r6 :: K) s := den_flat hf (l := [r6]) (by kernel_rfl) K s
theorem r6_eq (K : List Item) (s : St) : den prog ann 11 (.code r6 :: K) s = mreg prog ann 11 none [] none [] [
    ⟨some 37, none, .v fun s => some (s.get 8)⟩,
    ⟨some 38, none, .v fun s => some (s.get 9)⟩,
    ⟨some 39, none, .v fun s => bslF 1 (bslA 1 1 [.int .i64 0] [(0, (s.get 38))])⟩,
    ⟨some 40, none, .w false none fun s => appendA 1 8 s.m (s.get 37) (s.get 39)⟩,
    ⟨some 8, none, .v fun s => some (s.get 40)⟩] K s := (den_reg hf _ K s).trans (by kernel_rfl)
theorem i1e_eq (K : List Item) (s : St) : den prog ann 11 (.code i1e :: K) s = den prog ann 11 (K) s := den_flat hf (l := []) (by kernel_rfl) K s
theorem r4_eq (K : List Item) (s : St) : den prog ann 11 (.code r4 :: K) s = mreg prog ann 11 (some [1, 5, 7, 8, 9]) [] none [] [
    ⟨some 30, none, .v fun s => some (s.get 9)⟩,
    ⟨some 31, none, .v fun s => binA prog .add 3 (s.get 30) (.int .i64 1)⟩,
    ⟨some 9, none, .v fun s => some (s.get 31)⟩] K s := (den_reg hf _ K s).trans (by kernel_rfl)
theorem r7_eq (K : List Item) (s : St) : den prog ann 11 (.code r7 :: K) s = mreg prog ann 11 (some [5, 7, 8]) [] none [] [
    ⟨some 41, none, .v fun s => some (s.get 8)⟩,
    ⟨some 42, none, .v fun s => lenSl (s.get 41)⟩,
    ⟨some 43, none, .v fun s => binA prog .eql 3 (s.get 42) (.int .i64 0)⟩] K s := (den_reg hf _ K s).trans (by kernel_rfl)
theorem i2_eq (K : List Item) (s : St) : den prog ann 11 (.code i2 :: K) s = ifV prog ann 11 43 i2t i2e K s (s.get 43) := den_if hf (by kernel_rfl) K s
theorem i2t_eq (K : List Item) (s : St) : den prog ann 11 (.code i2t :: K) s = den prog ann 11 (.code r8 :: K) s := den_flat hf (l := [r8]) (by kernel_rfl) K s
theorem r8_eq (K : List Item) (s : St) : den prog ann 11 (.code r8 :: K) s = mreg prog ann 11 none [] none [] [
    ⟨some 44, none, .w false none fun s => bslM s.m 1 (bslA 1 1 [.int .i64 0] [(0, (.int .i64 0))])⟩,
    ⟨some 8, none, .v fun s => some (s.get 44)⟩] K s := (den_reg hf _ K s).trans (by kernel_rfl)
theorem i2e_eq (K : List Item) (s : St) : den prog ann 11 (.code i2e :: K) s = den prog ann 11 (K) s := den_flat hf (l := []) (by kernel_rfl) K s
theorem r9_eq (K : List Item) (s : St) : den prog ann 11 (.code r9 :: K) s = mreg prog ann 11 (some [5, 7, 8]) [8] none [] [
    ⟨some 45, none, .v fun s => idxArr 2 1 (s.get 5) (.int .i64 0)⟩,
    ⟨some 46, none, .v fun s => loadF false 1 (s.get 45)⟩,
    ⟨some 47, none, .v fun s => convInt .i64 (s.get 46)⟩,
    ⟨some 48, none, .v fun s => some (s.get 7)⟩,
    ⟨some 49, none, .v fun s => binA prog .sub 3 (s.get 48) (.int .i64 1)⟩,
    ⟨some 50, none, .v fun s => binA prog .rem 3 (s.get 47) (s.get 49)⟩,
    ⟨some 51, none, .v fun s => binA prog .add 3 (s.get 50) (.int .i64 1)⟩,
    ⟨some 10, none, .v fun s => some (s.get 51)⟩] K s := (den_reg hf _ K s).trans (by kernel_rfl)
theorem k2_eq (K : List Item) (t : List (Nat × AV)) (m : Mem) : den prog ann 11 (.code k2 :: K) ⟨t, 138, m⟩ = L2 (get t 5) (get t 7) (get t 8) (get t 10) m K := den_loop_enter hf (b := l2) (id := 10) (l := [5, 7, 8, 10]) (by kernel_rfl) (by kernel_rfl) (by kernel_rfl) K _
theorem l2_eq (K : List Item) (t : List (Nat × AV)) (m : Mem) : den prog ann 11 (.inLoop l2 :: .inBlock 2 :: K) ⟨t, 138, m⟩ = L2 (get t 5) (get t 7) (get t 8) (get t 10) m K := den_loop_again hf (id := 10) (l := [5, 7, 8, 10]) (by kernel_rfl) (by kernel_rfl) (.inBlock 2 :: K) _
theorem L2_eq (x5 x7 x8 x10 : AV) (m : Mem) (K : List Item) : L2 x5 x7 x8 x10 m K = den prog ann 11 (.code r10 :: .code i3 :: .code k3 :: .inLoop l2 :: .inBlock 2 :: K) ⟨[(5, x5), (7, x7), (8, x8), (10, x10)], 138, m⟩ := den_flat hf (l := [r10, i3, k3]) (by kernel_rfl) _ _
theorem r10_eq (K : List Item) (s : St) : den prog ann 11 (.code r10 :: K) s = mreg prog ann 11 (some [5, 7, 8, 10]) [] none [] [
    ⟨some 52, none, .v fun s => some (s.get 10)⟩,
    ⟨some 53, none, .v fun s => some (s.get 7)⟩,
    ⟨some 54, none, .c 0 (fun s => (.fn 38 [] [])) fun s => [(s.get 52), (s.get 53)]⟩,
    ⟨some 55, none, .v fun s => binA prog .neq 3 (s.get 54) (.int .i64 1)⟩] K s := (den_reg hf _ K s).trans (by kernel_rfl)
theorem i3_eq (K : List Item) (s : St) : den prog ann 11 (.code i3 :: K) s = ifV prog ann 11 55 i3t i3e K s (s.get 55) := den_if hf (by kernel_rfl) K s
theorem i3t_eq (K : List Item) (s : St) : den prog ann 11 (.code i3t :: K) s = den prog ann 11 (K) s := den_flat hf (l := []) (by kernel_rfl) K s
theorem i3e_eq (K : List Item) (s : St) : den prog ann 11 (.code i3e :: K) s = den prog ann 11 (.code (.exit 2) :: K) s := den_flat hf (l := [(.exit 2)]) (by kernel_rfl) K s
theorem k3_eq (K : List Item) (s : St) : den prog ann 11 (.code k3 :: K) s = den prog ann 11 (.code r11 :: .inBlock 3 :: K) s := den_blk hf (b := blkOf k3) (l := [r11]) (by kernel_rfl) (by kernel_rfl) K s
theorem r11_eq (K : List Item) (s : St) : den prog ann 11 (.code r11 :: K) s = mreg prog ann 11 none [] none [] [
    ⟨some 56, none, .v fun s => some (s.get 10)⟩,
    ⟨some 57, none, .v fun s => some (s.get 7)⟩,
    ⟨some 58, none, .v fun s => binA prog .sub 3 (s.get 57) (.int .i64 1)⟩,
    ⟨some 59, none, .v fun s => binA prog .rem 3 (s.get 56) (s.get 58)⟩,
    ⟨some 60, none, .v fun s => binA prog .add 3 (s.get 59) (.int .i64 1)⟩,
    ⟨some 10, none, .v fun s => some (s.get 60)⟩] K s := (den_reg hf _ K s).trans (by kernel_rfl)
theorem r12_eq (K : List Item) (s : St) : den prog ann 11 (.code r12 :: K) s = mreg prog ann 11 (some [5, 7, 8, 10]) [] none [] [
    ⟨some 61, none, .v fun s => some (s.get 7)⟩,
    ⟨some 62, none, .v fun s => some (s.get 8)⟩,
    ⟨some 63, none, .v fun s => some (s.get 10)⟩,
    ⟨some 64, none, .v fun s => idxArr 2 1 (s.get 5) (.int .i64 1)⟩,
    ⟨some 65, none, .v fun s => loadF false 1 (s.get 64)⟩,
    ⟨some 66, none, .v fun s => convInt .i64 (s.get 65)⟩,
    ⟨some 67, none, .v fun s => some (s.get 7)⟩,
    ⟨some 68, none, .v fun s => binA prog .rem 3 (s.get 66) (s.get 67)⟩,
    ⟨some 69, none, .c 2 (fun s => (.fn 39 [] [])) fun s => [(s.get 61), (s.get 62), (s.get 63), (s.get 68)]⟩,
    ⟨some 11, none, .v fun s => some (s.get 69)⟩] K s := (den_reg hf _ K s).trans (by kernel_rfl)
theorem r13_eq (K : List Item) (s : St) : den prog ann 11 (.code r13 :: K) s = mreg prog ann 11 none [] none [] [
    ⟨some 71, none, .v fun s => some (s.get 7)⟩,
    ⟨some 72, none, .v fun s => some (s.get 8)⟩,
    ⟨some 73, none, .c 2 (fun s => (.fn 35 [] [])) fun s => [(s.get 71), (s.get 72)]⟩,
    ⟨some 70, none, .v fun s => some (s.get 73)⟩,
    ⟨some 74, none, .v fun s => extA (s.get 70) 0⟩,
    ⟨some 75, none, .v fun s => extA (s.get 70) 1⟩,
    ⟨some 12, none, .v fun s => some (s.get 74)⟩,
    ⟨some 13, none, .v fun s => some (s.get 75)⟩] K s := (den_reg hf _ K s).trans (by kernel_rfl)
theorem r14_eq (K : List Item) (s : St) : den prog ann 11 (.code r14 :: K) s = mreg prog ann 11 none [] none [] [
    ⟨some 77, none, .v fun s => some (s.get 7)⟩,
    ⟨some 78, none, .v fun s => some (s.get 11)⟩,
    ⟨some 79, none, .c 0 (fun s => (.fn 35 [] [])) fun s => [(s.get 77), (s.get 78)]⟩,
    ⟨some 76, none, .v fun s => some (s.get 79)⟩,
    ⟨some 80, none, .v fun s => extA (s.get 76) 0⟩,
    ⟨some 81, none, .v fun s => extA (s.get 76) 1⟩,
    ⟨some 14, none, .v fun s => some (s.get 80)⟩,
    ⟨some 15, none, .v fun s => some (s.get 81)⟩] K s := (den_reg hf _ K s).trans (by kernel_rfl)
theorem r15_eq (K : List Item) (s : St) : den prog ann 11 (.code r15 :: K) s = mreg prog ann 11 none [] none [] [
    ⟨some 83, none, .v fun s => some (s.get 7)⟩,
    ⟨some 84, none, .v fun s => some (s.get 12)⟩,
    ⟨some 85, none, .c 0 (fun s => (.fn 35 [] [])) fun s => [(s.get 83), (s.get 84)]⟩,
    ⟨some 82, none, .v fun s => some (s.get 85)⟩,
    ⟨some 86, none, .v fun s => extA (s.get 82) 0⟩,
    ⟨some 87, none, .v fun s => extA (s.get 82) 1⟩,
    ⟨some 16, none, .v fun s => some (s.get 86)⟩,
    ⟨some 17, none, .v fun s => some (s.get 87)⟩] K s := (den_reg hf _ K s).trans (by kernel_rfl)
theorem r16_eq (K : List Item) (s : St) : den prog ann 11 (.code r16 :: K) s = mreg prog ann 11 none [] none [] [
    ⟨some 89, none, .v fun s => some (s.get 7)⟩,
    ⟨some 90, none, .v fun s => some (s.get 8)⟩,
    ⟨some 91, none, .c 2 (fun s => (.fn 34 [] [])) fun s => [(s.get 89), (s.get 90)]⟩,
    ⟨some 88, none, .v fun s => some (s.get 91)⟩,
    ⟨some 92, none, .v fun s => extA (s.get 88) 0⟩,
    ⟨some 93, none, .v fun s => extA (s.get 88) 1⟩,
    ⟨some 18, none, .v fun s => some (s.get 92)⟩,
    ⟨some 19, none, .v fun s => some (s.get 93)⟩] K s := (den_reg hf _ K s).trans (by kernel_rfl)
theorem r17_eq (K : List Item) (s : St) : den prog ann 11 (.code r17 :: K) s = mreg prog ann 11 none [] none [] [
    ⟨some 95, none, .v fun s => some (s.get 7)⟩,
    ⟨some 96, none, .v fun s => some (s.get 11)⟩,
    ⟨some 97, none, .c 0 (fun s => (.fn 34 [] [])) fun s => [(s.get 95), (s.get 96)]⟩,
    ⟨some 94, none, .v fun s => some (s.get 97)⟩,
    ⟨some 98, none, .v fun s => extA (s.get 94) 0⟩,
    ⟨some 99, none, .v fun s => extA (s.get 94) 1⟩,
    ⟨some 20, none, .v fun s => some (s.get 98)⟩,
    ⟨some 21, none, .v fun s => some (s.get 99)⟩] K s := (den_reg hf _ K s).trans (by kernel_rfl)
theorem r18_eq (K : List Item) (s : St) : den prog ann 11 (.code r18 :: K) s = mreg prog ann 11 none [] none [] [
    ⟨some 100, none, .v fun s => some (s.get 13)⟩,
    ⟨some 101, none, .v fun s => binA prog .eql 23 (s.get 100) (.int .i64 0)⟩,
    ⟨some 102, none, .v fun s => some (s.get 101)⟩,
    ⟨some 103, some (102, true), .v fun s => some (s.get 15)⟩,
    ⟨some 104, some (102, true), .v fun s => binA prog .eql 23 (s.get 103) (.int .i64 0)⟩,
    ⟨some 105, none, .v fun s => pickA (s.get 102) (s.get 104) (.bool false)⟩,
    ⟨some 106, none, .v fun s => some (s.get 105)⟩,
    ⟨some 107, some (106, true), .v fun s => some (s.get 17)⟩,
    ⟨some 108, some (106, true), .v fun s => binA prog .eql 23 (s.get 107) (.int .i64 0)⟩,
    ⟨some 109, none, .v fun s => pickA (s.get 106) (s.get 108) (.bool false)⟩,
    ⟨some 110, none, .v fun s => some (s.get 109)⟩,
    ⟨some 111, some (110, true), .v fun s => some (s.get 19)⟩,
    ⟨some 112, some (110, true), .v fun s => binA prog .eql 23 (s.get 111) (.int .i64 0)⟩,
    ⟨some 113, none, .v fun s => pickA (s.get 110) (s.get 112) (.bool false)⟩,
    ⟨some 114, none, .v fun s => some (s.get 113)⟩,
    ⟨some 115, some (114, true), .v fun s => some (s.get 21)⟩,
    ⟨some 116, some (114, true), .v fun s => binA prog .eql 23 (s.get 115) (.int .i64 0)⟩,
    ⟨some 117, none, .v fun s => pickA (s.get 114) (s.get 116) (.bool false)⟩,
    ⟨some 118, none, .v fun s => some (s.get 117)⟩,
    ⟨some 119, some (118, true), .v fun s => some (s.get 12)⟩,
    ⟨some 120, some (118, true), .v fun s => some (s.get 14)⟩,
    ⟨some 121, some (118, true), .c 0 (fun s => (.fn 15 [] [])) fun s => [(s.get 119), (s.get 120)]⟩,
    ⟨some 122, none, .v fun s => pickA (s.get 118) (s.get 121) (.bool false)⟩,
    ⟨some 123, none, .v fun s => some (s.get 122)⟩,
    ⟨some 124, some (123, true), .v fun s => some (s.get 12)⟩,
    ⟨some 125, some (123, true), .v fun s => some (s.get 16)⟩,
    ⟨some 126, some (123, true), .c 0 (fun s => (.fn 15 [] [])) fun s => [(s.get 124), (s.get 125)]⟩,
    ⟨some 127, none, .v fun s => pickA (s.get 123) (s.get 126) (.bool false)⟩,
    ⟨some 128, none, .v fun s => some (s.get 127)⟩,
    ⟨some 129, some (128, true), .v fun s => some (s.get 18)⟩,
    ⟨some 130, some (128, true), .v fun s => lenSl (s.get 129)⟩,
    ⟨some 131, some (128, true), .v fun s => some (s.get 20)⟩,
    ⟨some 132, some (128, true), .v fun s => lenSl (s.get 131)⟩,
    ⟨some 133, some (128, true), .v fun s => binA prog .eql 3 (s.get 130) (s.get 132)⟩,
    ⟨some 134, none, .v fun s => pickA (s.get 128) (s.get 133) (.bool false)⟩,
    ⟨some 135, none, .v fun s => some (s.get 134)⟩,
    ⟨some 136, some (135, true), .c 0 (fun s => (.fn 14 [] [])) fun s => []⟩,
    ⟨some 137, none, .v fun s => pickA (s.get 135) (s.get 136) (.bool false)⟩,
    ⟨some 6, none, .v fun s => some (s.get 137)⟩] K s := (den_reg hf _ K s).trans (by kernel_rfl)
theorem ret_eq (K : List Item) (s : St) : den prog ann 11 (.code .ret :: K) s = finM true [fun s => some (s.get 6)] s := (den_ret hf K s).trans (by kernel_rfl)
theorem nil_eq (s : St) : den prog ann 11 [] s = finM true [fun s => some (s.get 6)] s := (den_nil hf s).trans (by kernel_rfl)
theorem inBlock_eq (id : Nat) (K : List Item) (s : St) : den prog ann 11 (.inBlock id :: K) s = den prog ann 11 K s := den_inBlock hf id K s
theorem exit_eq (id : Nat) (K : List Item) (s : St) : den prog ann 11 (.code (.exit id) :: K) s = exitV prog ann 11 (exitTo id K) s := den_exitV hf id K s
theorem call_eq (v0 v1 v2 : AV) (m : Mem) (h : closedL [v0, v1, v2] = true) : denC prog ann 11 [v0, v1, v2] m = (den prog ann 11 [.code b] ⟨[(0, v0), (1, v1), (2, v2)], 138, Mem.empty⟩).bind fun r => some (r.1, m) := (denC_pure hf (b := b) (by kernel_rfl) (by kernel_rfl) (by kernel_rfl) h m).trans (by kernel_rfl)
theorem pure_eq : (ann 11).pure = true := by kernel_rfl
attribute [simp] b_eq r0_eq r1_eq r2_eq k0_eq l0_eq r3_eq i0_eq i0t_eq i0e_eq k1_eq r5_eq i1_eq i1t_eq r6_eq i1e_eq r4_eq r7_eq i2_eq i2t_eq r8_eq i2e_eq r9_eq k2_eq l2_eq r10_eq i3_eq i3t_eq i3e_eq k3_eq r11_eq r12_eq r13_eq r14_eq r15_eq r16_eq r17_eq r18_eq ret_eq nil_eq inBlock_eq exit_eq pure_eq
end l04_StrapCanons
end Go.Proofs.Ytpghadmpegncgaa

/-
  THE LAWS' EXAMPLES HOLD. Conditions: none.
-/
namespace Go.Proofs.Ytpghadmpegncgaa
open Go.AM
open Go.Proofs.Try (prog)
set_option linter.all false
set_option maxRecDepth 1000000

def isT (r : Option Res) : Bool := match r with
  | some (.bool b, _) => b
  | _ => false
theorem lives_run : isT (callN prog ann 3000 14 [] Mem.empty) = true := by kernel_rfl
@[simp] theorem lives_pure : (ann 14).pure = true := by kernel_rfl
theorem f14_at : prog.funcs[14]? = some Try.f14 := by kernel_rfl
theorem f14_some : Try.f14.body.isSome = true := by kernel_rfl
theorem lives_spec (m : Mem) : denC prog ann 14 [] m = some (.bool true, m) := by
  have hb : Try.f14.body = some (Try.f14.body.getD .skip) := by
    cases h : Try.f14.body with
    | none => have := f14_some; rw [h] at this; cases this
    | some b => rfl
  have e := fun m => denC_pure (P := prog) (A := ann) (f := 14) f14_at hb (by kernel_rfl) (by kernel_rfl) (show closedL [] = true from rfl) m
  have h := lives_run
  cases hr : callN prog ann 3000 14 [] Mem.empty with
  | none => rw [hr] at h; cases h
  | some r =>
    rw [hr] at h
    have h2 := denC_of_callN hr
    rw [e] at h2 ⊢
    obtain ⟨q, h3, h4⟩ := Option.bind_eq_some_iff.1 h2
    rw [h3]
    simp at h4
    subst h4
    match q, h with
    | (.bool true, _), _ => rfl
end Go.Proofs.Ytpghadmpegncgaa

/-
  StrapCanons: the law answers true. Conditions: none.
-/
namespace Go.Proofs.Ytpghadmpegncgaa
open Go.AM
open Go.Proofs.Try (prog)
set_option linter.all false
set_option maxRecDepth 100000
set_option maxHeartbeats 8000000

noncomputable def restC : List Item := [.code l04_StrapCanons.r12, .code l04_StrapCanons.r13, .code l04_StrapCanons.r14, .code l04_StrapCanons.r15, .code l04_StrapCanons.r16, .code l04_StrapCanons.r17, .code l04_StrapCanons.r18, .code .ret]
theorem can_end {v t : Nat} {l : List Int} {a b : Int} (s : RingOk v l) (ht : t < v) (hg : Nat.gcd t v = 1) (hb : 0 ≤ b ∧ b ≤ 255) (m : Mem) :
    l04_StrapCanons.L2 (.fptr [.int .u8 a, .int .u8 b]) (.int .i64 v) (.fsl false l.length (ints l)) (.int .i64 t) m restC = some (.bool true, Mem.empty) := by
  have hv2 := s.v2
  have hv31 := s.v31
  have hfew := s.few
  have hv : IsInts (.fsl false l.length (ints l)) l := .inr ⟨false, rfl⟩
  have hgs := fun m => gcd_spec t v m
  rw [hg] at hgs
  have hwb : IntKind.wrap .i64 b = b := wrap_id (by omega) (by omega)
  have he : b.tmod (v : Int) = b % v := Int.tmod_eq_emod_of_nonneg hb.1
  have p0 : 0 ≤ b % (v : Int) := Int.emod_nonneg _ (by omega)
  have p1 : b % (v : Int) < v := Int.emod_lt_of_pos _ (by omega)
  have hwe : IntKind.wrap .i64 (b % v) = b % v := wrap_id (by omega) (by omega)
  generalize b % (v : Int) = d at *
  have htn := fun m => turned_spec (v := v) (t := (t : Int)) (s := d) hv hfew s.rng31 (by omega) (by omega) (by omega) m
  rw [tur_mv s hg p0, mvL_len] at htn
  have so := ring_mv s hg p0
  have ho : Orb v l (mvL v t d l) := ⟨t, d, ht, hg, p0, p1, rfl⟩
  have hml := mvL_len v t d l
  have hvo : IsInts (.fsl false l.length (ints (mvL v t d l))) (mvL v t d l) := .inr ⟨false, by rw [hml]⟩
  obtain ⟨w1, i1, c1⟩ := Canon_spec hv s (ring_err hv s)
  obtain ⟨w2, i2, c2⟩ := Canon_spec hvo so (ring_err hvo so)
  have hc1 := canon_in s
  have sc := hc1.ring s
  obtain ⟨w3, i3, c3⟩ := Canon_spec i1 sc (ring_err i1 sc)
  rw [canon_orb s ho] at i2
  rw [canon_orb s hc1] at i3
  have m1 := fun m => mults_spec hv s (ring_err hv s) m
  have m2 := fun m => mults_spec hvo so (ring_err hvo so) m
  rw [mults_orb s ho] at m2
  have hcl := canonL_len v l
  have h1 := fun m => same_spec i1 i2 (by omega) (by omega) m
  have h2 := fun m => same_spec i1 i3 (by omega) (by omega) m
  rw [decide_eq_true rfl] at h1 h2
  have im := intsV_is (multsL v l)
  unfold restC
  rw [l04_StrapCanons.L2_eq]
  simp [show ¬ v = 0 by omega, hgs, hwb, he, hwe, htn, c1, c2, c3, m1, m2, i1.closed, i2.closed, i3.closed, im.closed, im.len, h1, h2, lives_spec]
  done
theorem can_loop {v : Nat} {l : List Int} {a b : Int} (s : RingOk v l) (hb : 0 ≤ b ∧ b ≤ 255) : ∀ (k t : Nat) (m : Mem), t + k + 1 = v → 1 ≤ t →
    l04_StrapCanons.L2 (.fptr [.int .u8 a, .int .u8 b]) (.int .i64 v) (.fsl false l.length (ints l)) (.int .i64 t) m restC = some (.bool true, Mem.empty) := by
  intro k
  have hv2 := s.v2
  have hv31 := s.v31
  induction k with
  | zero =>
    intro t m h1 h2
    have e : t = v - 1 := by omega
    subst e
    exact can_end s (by omega) (gcd_pred (by omega) (by omega)) hb m
  | succ k ih =>
    intro t m h1 h2
    by_cases hg : Nat.gcd t v = 1
    · exact can_end s (by omega) hg hb m
    · have hg' : ¬ ((Nat.gcd t v : Nat) : Int) = 1 := by omega
      have hgs := fun m => gcd_spec t v m
      have hw1 : IntKind.wrap .i64 ((v : Int) - 1) = (v : Int) - 1 := wrap_id (by omega) (by omega)
      have hne : ¬ (v : Int) - 1 = 0 := by omega
      have he : (t : Int).tmod ((v : Int) - 1) = t := Int.tmod_eq_of_lt (by omega) (by omega)
      have hw2 : IntKind.wrap .i64 ((t : Int) + 1) = (t : Int) + 1 := wrap_id (by omega) (by omega)
      have st := ih (t + 1) m (by omega) (by omega)
      simp only [Int.natCast_add, Int.cast_ofNat_Int] at st
      rw [← st, l04_StrapCanons.L2_eq]
      simp [hgs, hg', hg, hw1, hne, he, hw2]
      done
theorem can_bits {v : Nat} {x : Int} {x5 : AV} (h31 : v ≤ 31) (oid : Nat) (K : List Item) : ∀ (k i : Nat) (acc : List Int) (m : Mem), i + k = v → acc.length ≤ i → m.h oid = some (.cells (ints acc)) →
    ∃ m', m'.h oid = some (.cells (ints (acc ++ setF x k i))) ∧ l04_StrapCanons.L0 (.int .u32 x) x5 (.int .i64 v) (.sl oid 1 0 acc.length acc.length) (.int .i64 i) m K =
      l04_StrapCanons.L0 (.int .u32 x) x5 (.int .i64 v) (.sl oid 1 0 (acc ++ setF x k i).length (acc ++ setF x k i).length) (.int .i64 v) m' K := by
  intro k
  induction k with
  | zero =>
    intro i acc m h1 ha hm
    have e : i = v := by omega
    subst e
    exact ⟨m, by simpa [setF] using hm, by simp [setF]⟩
  | succ k ih =>
    intro i acc m h1 ha hm
    have hi : i < v := by omega
    have hw : IntKind.wrap .i64 ((i : Int) + 1) = (i : Int) + 1 := wrap_id (by omega) (by omega)
    obtain ⟨y, z, t1, t2, t3⟩ := sb_spec x i
    rw [setF_succ]
    cases q : sb x i with
    | true =>
      rw [q] at t3
      obtain ⟨m', g1, g2⟩ := ih (i + 1) (acc ++ [(i : Int)]) ⟨upd m.h oid (some (.cells (ints (acc ++ [(i : Int)])))), m.nx⟩ (by omega) (by simp; omega) (by simp)
      simp only [Int.natCast_add, Int.cast_ofNat_Int, List.append_assoc, List.singleton_append, List.length_append, List.length_cons, List.length_nil] at g1 g2
      refine ⟨m', by simpa using g1, ?_⟩
      rw [if_pos rfl]
      simp only [List.length_append, List.length_cons]
      rw [← g2, l04_StrapCanons.L0_eq]
      have hx : ints acc ++ [AV.int .i64 (i : Int)] = ints (acc ++ [(i : Int)]) := by simp [ints]
      simp [-binA_shr, -binA_and, t1, t2, t3, hi, hw, hm, hx, show acc.length ≤ 4611686018427387903 by omega, show (acc.length + 1) * 8 ≤ 70368744177664 by omega]
      done
    | false =>
      rw [q] at t3
      obtain ⟨m', g1, g2⟩ := ih (i + 1) acc m (by omega) (by omega) hm
      simp only [Int.natCast_add, Int.cast_ofNat_Int] at g2
      refine ⟨m', by simpa using g1, ?_⟩
      rw [if_neg (by decide), ← g2, l04_StrapCanons.L0_eq]
      simp [-binA_shr, -binA_and, t1, t2, t3, hi, hw]
      done
theorem can_runs {d : Nat} (a0 a1 a2 : AV) (h0 : DatV prog (d + 4) 5 a0) (h1 : DatV prog (d + 4) 50 a1) (h2 : DatV prog (d + 4) 51 a2) : ∃ m', denC prog ann 11 [a0, a1, a2] Mem.empty = some (.bool true, m') := by
  obtain ⟨v0, rfl, hv0, hv1⟩ := datV5 h0
  obtain ⟨x, rfl⟩ := datV50 h1
  obtain ⟨a, b, rfl, ha, ha2, hb, hb2⟩ := datV51 h2
  have hw0 : IntKind.wrap .i64 v0 = v0 := wrap_id (by omega) (by omega)
  have he0 : v0.tmod 30 = v0 % 30 := Int.tmod_eq_emod_of_nonneg hv0
  obtain ⟨v, hv⟩ : ∃ v : Nat, v0 % 30 + 2 = v := ⟨(v0 % 30 + 2).toNat, by omega⟩
  have hvb : 2 ≤ v ∧ v ≤ 31 := by omega
  have hwv : IntKind.wrap .i64 (v0 % 30) = v0 % 30 := wrap_id (by omega) (by omega)
  have hwv2 : IntKind.wrap .i64 (v : Int) = v := wrap_id (by omega) (by omega)
  have hwa : IntKind.wrap .i64 a = a := wrap_id (by omega) (by omega)
  have hw1 : IntKind.wrap .i64 ((v : Int) - 1) = (v : Int) - 1 := wrap_id (by omega) (by omega)
  have hne : ¬ (v : Int) - 1 = 0 := by omega
  have he1 : a.tmod ((v : Int) - 1) = a % ((v : Int) - 1) := Int.tmod_eq_emod_of_nonneg ha
  have p0 : 0 ≤ a % ((v : Int) - 1) := Int.emod_nonneg _ (by omega)
  have p1 : a % ((v : Int) - 1) < (v : Int) - 1 := Int.emod_lt_of_pos _ (by omega)
  obtain ⟨t, ht⟩ : ∃ t : Nat, a % ((v : Int) - 1) + 1 = t := ⟨(a % ((v : Int) - 1) + 1).toNat, by omega⟩
  have hwt : IntKind.wrap .i64 (t : Int) = t := wrap_id (by omega) (by omega)
  have hcl : closedL [.int .u8 v0, .int .u32 x, .agg [.int .u8 a, .int .u8 b]] = true := by simp
  refine ⟨Mem.empty, ?_⟩
  rw [l04_StrapCanons.call_eq _ _ _ _ hcl]
  obtain ⟨m', g1, g2⟩ := can_bits (x := x) (x5 := .fptr [.int .u8 a, .int .u8 b]) hvb.2 0 (.code l04_StrapCanons.r7 :: .code l04_StrapCanons.i2 :: .code l04_StrapCanons.r9 :: .code l04_StrapCanons.k2 :: restC) v 0 [] ⟨upd Mem.empty.h 0 (some (.cells [])), 1⟩ (by omega) (by simp) (by simp)
  simp only [List.nil_append, List.length_nil, Int.ofNat_zero, Int.cast_ofNat_Int] at g1 g2
  unfold restC at g2
  simp [hw0, he0, hwv, hv, hwv2]
  rw [g2]
  by_cases q : setF x v 0 = []
  · rw [q] at g1 ⊢
    have hr := can_loop (a := a) (b := b) (ring_zero hvb.1 hvb.2) ⟨hb, hb2⟩ (v - 1 - t) t
    unfold restC at hr
    simp at hr
    rw [l04_StrapCanons.L0_eq]
    simp [hwa, hw1, hne, he1, ht, hwt]
    rw [hr _ (by omega) (by omega)]; rfl
    done
  · have hr := can_loop (a := a) (b := b) (ring_set1 hvb.1 hvb.2 q) ⟨hb, hb2⟩ (v - 1 - t) t
    unfold restC at hr
    rw [l04_StrapCanons.L0_eq]
    have hp : ¬ (setF x v 0).length = 0 := by simpa using q
    simp [hp, q, g1, hwa, hw1, hne, he1, ht, hwt]
    rw [hr _ (by omega) (by omega)]; rfl
    done
end Go.Proofs.Ytpghadmpegncgaa
