/-
  STRAPS: the even round straps of the laws' table, multiplied and moved. Conditions: none.
-/
import Derived.Test.YtofceaeboboflaaDoorK01
import Derived.Test.YtofceaeboboflaaDoorKAmE
import Derived.Test.YtofceaeboboflaaDoorKAmH
set_option linter.all false
namespace Go.Proofs.YtofceaeboboflaaDoor
open Go.AM
open Go.Proofs.Tryd (prog)
set_option linter.all false
set_option maxRecDepth 100000
set_option maxHeartbeats 8000000

def tabV (q : Nat) : Nat := [7, 11, 13, 15, 21, 31, 19, 4, 6, 23].getD q 7
def tabL (q : Nat) : List Int := [[0, 1, 3], [1, 3, 4, 5, 9], [0, 1, 3, 9], [0, 1, 2, 4, 5, 8, 10], [3, 6, 7, 12, 14], [1, 5, 11, 24, 25, 27], [1, 4, 5, 6, 7, 9, 11, 16, 17], [0, 1, 2], [2], [1, 2, 3, 4, 6, 8, 9, 12, 13, 16, 18]].getD q [0, 1, 3]

@[simp] theorem globV0 : globV 0 = .fptr [.fsl false 10 evenCs] := rfl
theorem even_drop : ∀ q : Nat, q < 10 → ∃ r, evenCs.drop (q * 2) = .int .i64 (tabV q : Nat) :: .fsl false (tabL q).length (ints (tabL q)) :: r
  | 0, _ => ⟨_, rfl⟩ | 1, _ => ⟨_, rfl⟩ | 2, _ => ⟨_, rfl⟩ | 3, _ => ⟨_, rfl⟩ | 4, _ => ⟨_, rfl⟩
  | 5, _ => ⟨_, rfl⟩ | 6, _ => ⟨_, rfl⟩ | 7, _ => ⟨_, rfl⟩ | 8, _ => ⟨_, rfl⟩ | 9, _ => ⟨_, rfl⟩
  | _ + 10, h => absurd h (by omega)
theorem tab_rng : ∀ q : Nat, q < 10 → 4 ≤ tabV q ∧ tabV q ≤ 31 ∧ 0 < (tabL q).length ∧ (tabL q).length < tabV q ∧ (List.range' 0 (tabL q).length).all (rOk (tabV q) (tabL q)) = true
  | 0, _ => by decide | 1, _ => by decide | 2, _ => by decide | 3, _ => by decide | 4, _ => by decide
  | 5, _ => by decide | 6, _ => by decide | 7, _ => by decide | 8, _ => by decide | 9, _ => by decide
  | _ + 10, h => absurd h (by omega)
theorem tab_ring {q : Nat} (h : q < 10) : RingOk (tabV q) (tabL q) := by
  obtain ⟨h1, h2, h3, h4, h5⟩ := tab_rng q h
  exact (rOk_ring (by omega) (by omega)).2 h5

theorem made_end {v t : Nat} {l : List Int} {a b c : Int} (s : RingOk v l) (ht : t < v) (hg : Nat.gcd t v = 1) (hc : 0 ≤ c ∧ c ≤ 255) (m : Mem) :
    l04_made.L0 (.fptr [.int .u8 a, .int .u8 b, .int .u8 c]) (.fptr [.int .i64 v, .fsl false l.length (ints l)]) (.int .i64 t) m [.code l04_made.r5, .code .ret] =
      some (.tup [.int .i64 v, .fsl false l.length (ints (mvL v t (c % v) l))], Mem.empty) := by
  have hv2 := s.v2
  have hv31 := s.v31
  have hfew := s.few
  have hv : IsInts (.fsl false l.length (ints l)) l := .inr ⟨false, rfl⟩
  have hgs := fun m => gcd_spec t v m
  rw [hg] at hgs
  have hwb : IntKind.wrap .i64 c = c := wrap_id (by omega) (by omega)
  have he : c.tmod (v : Int) = c % v := Int.tmod_eq_emod_of_nonneg hc.1
  have p0 : 0 ≤ c % (v : Int) := Int.emod_nonneg _ (by omega)
  have p1 : c % (v : Int) < v := Int.emod_lt_of_pos _ (by omega)
  generalize c % (v : Int) = d at *
  have hwe : IntKind.wrap .i64 d = d := wrap_id (by omega) (by omega)
  have htn := fun m => turned_spec (v := v) (t := (t : Int)) (s := d) hv hfew s.rng31 (by omega) (by omega) (by omega) m
  rw [tur_mv s hg p0, mvL_len] at htn
  rw [l04_made.L0_eq]
  simp [show ¬ v = 0 by omega, hgs, hwb, he, hwe, htn]
  done
theorem made_loop {v : Nat} {l : List Int} {a b c : Int} (s : RingOk v l) (hc : 0 ≤ c ∧ c ≤ 255) : ∀ (k t : Nat) (m : Mem), t + k + 1 = v → 1 ≤ t →
    ∃ t' : Nat, t' < v ∧ Nat.gcd t' v = 1 ∧ l04_made.L0 (.fptr [.int .u8 a, .int .u8 b, .int .u8 c]) (.fptr [.int .i64 v, .fsl false l.length (ints l)]) (.int .i64 t) m [.code l04_made.r5, .code .ret] =
      some (.tup [.int .i64 v, .fsl false l.length (ints (mvL v t' (c % v) l))], Mem.empty) := by
  intro k
  have hv2 := s.v2
  have hv31 := s.v31
  induction k with
  | zero =>
    intro t m h1 h2
    have e : t = v - 1 := by omega
    subst e
    exact ⟨_, by omega, gcd_pred (by omega) (by omega), made_end s (by omega) (gcd_pred (by omega) (by omega)) hc m⟩
  | succ k ih =>
    intro t m h1 h2
    by_cases hg : Nat.gcd t v = 1
    · exact ⟨t, by omega, hg, made_end s (by omega) hg hc m⟩
    · have hg' : ¬ ((Nat.gcd t v : Nat) : Int) = 1 := by omega
      have hgs := fun m => gcd_spec t v m
      have hw1 : IntKind.wrap .i64 ((v : Int) - 1) = (v : Int) - 1 := wrap_id (by omega) (by omega)
      have hne : ¬ (v : Int) - 1 = 0 := by omega
      have he : (t : Int).tmod ((v : Int) - 1) = t := Int.tmod_eq_of_lt (by omega) (by omega)
      have hw2 : IntKind.wrap .i64 ((t : Int) + 1) = (t : Int) + 1 := wrap_id (by omega) (by omega)
      obtain ⟨t', q1, q2, st⟩ := ih (t + 1) m (by omega) (by omega)
      simp only [Int.natCast_add, Int.cast_ofNat_Int] at st
      refine ⟨t', q1, q2, ?_⟩
      rw [← st, l04_made.L0_eq]
      simp [hgs, hg', hg, hw1, hne, he, hw2]
      done
/-- What 'made' hands back: a set of the table, multiplied and moved. -/
theorem made_spec {a b c : Int} (ha : 0 ≤ a ∧ a ≤ 255) (hb : 0 ≤ b ∧ b ≤ 255) (hc : 0 ≤ c ∧ c ≤ 255) : ∃ q : Nat, q < 10 ∧ ∃ o, Orb (tabV q) (tabL q) o ∧ ∀ m,
    denC prog ann 7 [.agg [.int .u8 a, .int .u8 b, .int .u8 c]] m = some (.tup [.int .i64 (tabV q), .fsl false o.length (ints o)], m) := by
  have hwa : IntKind.wrap .i64 a = a := wrap_id (by omega) (by omega)
  have hwb : IntKind.wrap .i64 b = b := wrap_id (by omega) (by omega)
  have he0 : a.tmod 10 = a % 10 := Int.tmod_eq_emod_of_nonneg ha.1
  obtain ⟨q, hq⟩ : ∃ q : Nat, a % 10 = q := ⟨(a % 10).toNat, by omega⟩
  have hq10 : q < 10 := by omega
  obtain ⟨r, hr⟩ := even_drop q hq10
  obtain ⟨g1, g2, g3, g4, g5⟩ := tab_rng q hq10
  have s := tab_ring hq10
  generalize hvv : tabV q = v at *
  generalize hll : tabL q = l at *
  have hw1 : IntKind.wrap .i64 ((v : Int) - 1) = (v : Int) - 1 := wrap_id (by omega) (by omega)
  have hne : ¬ (v : Int) - 1 = 0 := by omega
  have he1 : b.tmod ((v : Int) - 1) = b % ((v : Int) - 1) := Int.tmod_eq_emod_of_nonneg hb.1
  have p0 : 0 ≤ b % ((v : Int) - 1) := Int.emod_nonneg _ (by omega)
  have p1 : b % ((v : Int) - 1) < (v : Int) - 1 := Int.emod_lt_of_pos _ (by omega)
  obtain ⟨t, ht⟩ : ∃ t : Nat, b % ((v : Int) - 1) + 1 = t := ⟨(b % ((v : Int) - 1) + 1).toNat, by omega⟩
  have hwt : IntKind.wrap .i64 (t : Int) = t := wrap_id (by omega) (by omega)
  have p2 : 0 ≤ c % (v : Int) := Int.emod_nonneg _ (by omega)
  have p3 : c % (v : Int) < v := Int.emod_lt_of_pos _ (by omega)
  have lp := made_loop (a := a) (b := b) s hc (v - 1 - t) t
  have hx : ∃ t' : Nat, t' < v ∧ Nat.gcd t' v = 1 ∧ ∀ m, denC prog ann 7 [.agg [.int .u8 a, .int .u8 b, .int .u8 c]] m = some (.tup [.int .i64 v, .fsl false l.length (ints (mvL v t' (c % v) l))], m) := by
    obtain ⟨t', q1, q2, lp0⟩ := lp { h := upd Mem.empty.h 9 none, nx := 11 } (by omega) (by omega)
    refine ⟨t', q1, q2, fun m => ?_⟩
    rw [l04_made.call_eq _ _ (by simp)]
    simp [hwa, he0, hq, hq10, hr, hwb, hw1, hne, he1, ht, hwt, lp0]
    done
  obtain ⟨t', q1, q2, h⟩ := hx
  refine ⟨q, hq10, ?_⟩
  have hl := mvL_len v t' (c % v) l
  rw [hvv, hll]
  exact ⟨mvL v t' (c % v) l, ⟨t', c % v, by omega, by omega, p2, p3, rfl⟩, fun m => by rw [h, hl]⟩
end Go.Proofs.YtofceaeboboflaaDoor

/-
  STRAPS (15): the differences in plain terms: their sum, and that they grow with the list. Conditions: none.
-/
namespace Go.Proofs.YtofceaeboboflaaDoor
open Go.AM
set_option linter.all false
set_option maxRecDepth 10000
set_option maxHeartbeats 2000000

def sumL : List Int → Int
  | [] => 0
  | a :: l => a + sumL l
/-- How often a difference comes. -/
def dHit (l : List Int) (v : Int) (g i q : Nat) : Bool := !decide (i = q) && decide ((nth l i - nth l q + v).tmod v = g)
def dCnt (l : List Int) (v : Int) (g n : Nat) : Nat → Nat → Nat
  | 0, _ => 0
  | k + 1, i => (List.range' 0 n).countP (dHit l v g i) + dCnt l v g n k (i + 1)
def gRound (v often : Int) (l : List Int) : Bool := decide (maxL (diffs v l) ≤ often)
def pRound (v : Nat) (often : Int) (l : List Int) : Bool := eqA (diffs v l) (v - 1) 1 && decide (nth (diffs v l) 1 = often)
end Go.Proofs.YtofceaeboboflaaDoor

/-
  STRAPS (16): the two searches for a round strap find the same. Conditions: none.
-/
namespace Go.Proofs.YtofceaeboboflaaDoor
open Go.AM
set_option linter.all false
set_option maxRecDepth 10000
set_option maxHeartbeats 2000000

theorem StrapOk.ge {l : List Int} (s : StrapOk l) : ∀ {i : Nat}, i < l.length → (i : Int) ≤ nth l i
  | 0, _ => by rw [s.zero]; omega
  | i + 1, h => by
    have := s.ge (i := i) (by omega)
    have := s.asc i h
    omega
theorem StrapOk.ring {l : List Int} (s : StrapOk l) {v : Nat} (hv : 2 ≤ v ∧ v ≤ 31) (ht : Go.Proofs.YtofceaeboboflaaDoor.top l ≤ (v : Int) - 1) : RingOk v l := by
  have hpos := s.pos
  have hge := s.ge (i := l.length - 1) (by omega)
  unfold Go.Proofs.YtofceaeboboflaaDoor.top at ht
  refine ⟨by omega, by omega, hpos, by omega, fun i hi => ⟨s.nonneg hi, ?_⟩, fun i hi => s.asc i hi⟩
  have := s.le (show i ≤ l.length - 1 by omega) (by omega)
  omega
def rrF (v : Nat) (often : Int) : Nat → List Int → Option (List Int)
  | 0, l => if pRound v often l = true then some l else none
  | f + 1, l => firstF (rrF v often f) l ((v : Int) - 1 - top l).toNat (top l + 1)
end Go.Proofs.YtofceaeboboflaaDoor

/-
  STRAPS (17): Round, and the specification's. Conditions: none.
-/
namespace Go.Proofs.YtofceaeboboflaaDoor
open Go.AM
open Go.Proofs.Tryd (prog)
set_option linter.all false
set_option maxRecDepth 100000
set_option maxHeartbeats 4000000

theorem ResV.deep {r : Option (List Int)} {w : AV} (h : ResV r w) (hp : Nat → Option AObj) (d : Nat) : AM.deep hp (d + 1) w = some w := by
  cases r with
  | none => have : w = .nils := h
            rw [this]; rfl
  | some q => obtain ⟨ex, rfl⟩ := h; rfl
def BadR (v k often : Int) : Prop := v < 2 ∨ 31 < v ∨ k < 2 ∨ 6 < k ∨ v - 1 < k ∨ often < 1 ∨ v < often
end Go.Proofs.YtofceaeboboflaaDoor

/-
  THE LAWS' EXAMPLES HOLD. Conditions: none.
-/
namespace Go.Proofs.YtofceaeboboflaaDoor
open Go.AM
open Go.Proofs.Tryd (prog)
set_option linter.all false
set_option maxRecDepth 1000000

def isT (r : Option Res) : Bool := match r with
  | some (.bool b, _) => b
  | _ => false
theorem lives_run : isT (callN prog ann 3000 9 [] Mem.empty) = true := by kernel_rfl
@[simp] theorem lives_pure : (ann 9).pure = true := by kernel_rfl
theorem f14_at : prog.funcs[9]? = some Tryd.f9 := by kernel_rfl
theorem f14_some : Tryd.f9.body.isSome = true := by kernel_rfl
theorem lives_spec (m : Mem) : denC prog ann 9 [] m = some (.bool true, m) := by
  have hb : Tryd.f9.body = some (Tryd.f9.body.getD .skip) := by
    cases h : Tryd.f9.body with
    | none => have := f14_some; rw [h] at this; cases this
    | some b => rfl
  have e := fun m => denC_pure (P := prog) (A := ann) (f := 9) f14_at hb (by kernel_rfl) (by kernel_rfl) (show closedL [] = true from rfl) m
  have h := lives_run
  cases hr : callN prog ann 3000 9 [] Mem.empty with
  | none => rw [hr] at h; cases h
  | some r =>
    rw [hr] at h
    have h2 := denC_of_callN hr
    rw [e] at h2 ⊢
    obtain ⟨q, h3, h4⟩ := Option.bind_eq_some_iff.1 h2
    rw [h3]
    simp at h4
    subst h4
    match q, h with
    | (.bool true, _), _ => rfl
end Go.Proofs.YtofceaeboboflaaDoor

/-
  StrapGroup: the law answers true. Conditions: none.
-/
namespace Go.Proofs.YtofceaeboboflaaDoor
open Go.AM
open Go.Proofs.Tryd (prog)
set_option linter.all false
set_option maxRecDepth 100000
set_option maxHeartbeats 8000000

theorem u23 : prog.underlying 23 = some (.array 3 5) := by kernel_rfl
theorem parts_three {α : Type} : ∀ {l : List α}, l.length = 3 → ∃ a b c, l = [a, b, c]
  | [a, b, c], _ => ⟨a, b, c, rfl⟩
  | [], h => by cases h
  | [_], h => by cases h
  | [_, _], h => by cases h
  | _ :: _ :: _ :: _ :: _, h => by simp at h
theorem datV23 {d : Nat} {a : AV} (h : DatV prog (d + 2) 23 a) : ∃ x y z, a = .agg [.int .u8 x, .int .u8 y, .int .u8 z] ∧ (0 ≤ x ∧ x ≤ 255) ∧ (0 ≤ y ∧ y ≤ 255) ∧ (0 ≤ z ∧ z ≤ 255) := by
  simp only [DatV, u23] at h
  obtain ⟨cs, rfl, h⟩ := h
  rw [Dat] at h
  simp only [u23] at h
  obtain ⟨parts, rfl, hl, hp⟩ := h
  obtain ⟨p, q, r, rfl⟩ := parts_three hl
  obtain ⟨x, rfl, h1, h2⟩ := dat5 (hp p (by simp)).2
  obtain ⟨y, rfl, h3, h4⟩ := dat5 (hp q (by simp)).2
  obtain ⟨z, rfl, h5, h6⟩ := dat5 (hp r (by simp)).2
  exact ⟨x, y, z, rfl, ⟨h1, h2⟩, ⟨h3, h4⟩, ⟨h5, h6⟩⟩

theorem units_one {v : Nat} (hv : 2 ≤ v) : ∃ r, unitsL v = 1 :: r := by
  obtain ⟨k, rfl⟩ : ∃ k, v = k + 2 := ⟨v - 2, by omega⟩
  refine ⟨uniF (k + 2) k 2, ?_⟩
  rw [unitsL, uniF_succ, if_neg (by simp), uniF_succ, if_pos (by simp)]
  rfl
theorem mults_one {v : Nat} {l : List Int} (s : RingOk v l) : ∃ r, multsL v l = 1 :: r := by
  have hv := s.v2
  obtain ⟨r, hr⟩ := units_one (v := v) (by omega)
  have h1 : fndF v 1 l v 0 = true := fnd_iff.2 ⟨0, by omega, by omega, by simpa using mvL_one s⟩
  exact ⟨r.filter fun t => fndF v t l v 0, by rw [multsL, hr, List.filter_cons, if_pos h1]⟩
theorem mults_nat {v : Nat} {l : List Int} (s : RingOk v l) {x : Int} (h : x ∈ multsL v l) : ∃ t : Nat, x = t ∧ 1 ≤ t ∧ t < v := by
  unfold multsL at h
  obtain ⟨t, e, _, h2, h3⟩ := mem_uniF (List.mem_filter.1 h).1
  refine ⟨t, e, ?_, by omega⟩
  rcases Nat.eq_zero_or_pos t with rfl | h
  · have := s.v2; rw [Nat.gcd_zero_left] at h3; omega
  · exact h
theorem mem_nth {l : List Int} {x : Int} (h : x ∈ l) : ∃ i, i < l.length ∧ nth l i = x := by
  obtain ⟨i, hi, e⟩ := List.getElem_of_mem h
  exact ⟨i, hi, by rw [← nth_get hi]; exact e⟩

theorem grp_in {wm : AV} {v : Nat} {ms : List Int} {bs : List Bool} (hw : IsInts wm ms) (hml : ms.length ≤ 31) (hv : 2 ≤ v ∧ v ≤ 31) (hr : ∀ i, i < ms.length → 1 ≤ nth ms i ∧ nth ms i < v) (hb : bs.length = v) {i : Nat} (hi : i < ms.length)
    (hc : ∀ k, k < ms.length → bnth bs ((nth ms i * nth ms k) % v).toNat = true) (oid : Nat) (K : List Item) : ∀ (k j : Nat) (m : Mem), j + k = ms.length → m.h oid = some (.cells (bls bs)) →
    ∃ m', m'.h oid = some (.cells (bls bs)) ∧ l04_StrapGroup.L6 (.int .i64 v) wm (.sl oid 1 0 v v) (.int .i64 i) (.int .i64 j) m (.inBlock 5 :: .code l04_StrapGroup.r21 :: .inLoop l04_StrapGroup.l4 :: .inBlock 4 :: K) =
      l04_StrapGroup.L4 (.int .i64 v) wm (.sl oid 1 0 v v) (.int .i64 ((i : Int) + 1)) m' K := by
  intro k
  have hwi : IntKind.wrap .i64 ((i : Int) + 1) = (i : Int) + 1 := wrap_id (by omega) (by omega)
  induction k with
  | zero =>
    intro j m h1 hm
    have e : j = ms.length := by omega
    subst e
    refine ⟨m, hm, ?_⟩
    rw [l04_StrapGroup.L6_eq]
    simp [hw.len, hwi]
    done
  | succ k ih =>
    intro j m h1 hm
    have hj : j < ms.length := by omega
    have hwj : IntKind.wrap .i64 ((j : Int) + 1) = (j : Int) + 1 := wrap_id (by omega) (by omega)
    have a1 := hr i hi
    have a2 := hr j hj
    have p0 : 0 ≤ nth ms i * nth ms j := Int.mul_nonneg (by omega) (by omega)
    have p1 : nth ms i * nth ms j ≤ 31 * 31 := Int.mul_le_mul (by omega) (by omega) (by omega) (by omega)
    have hwp : IntKind.wrap .i64 (nth ms i * nth ms j) = nth ms i * nth ms j := wrap_id (by omega) (by omega)
    have er : (nth ms i * nth ms j).tmod v = (nth ms i * nth ms j) % v := Int.tmod_eq_emod_of_nonneg p0
    have hcj := hc j hj
    have e1 := Int.emod_nonneg (nth ms i * nth ms j) (show (v : Int) ≠ 0 by omega)
    have e2 := Int.emod_lt_of_pos (nth ms i * nth ms j) (show (0 : Int) < v by omega)
    obtain ⟨d, hd⟩ : ∃ d : Nat, (nth ms i * nth ms j) % v = d := ⟨((nth ms i * nth ms j) % v).toNat, by omega⟩
    rw [hd] at hcj er
    rw [Int.toNat_natCast] at hcj
    have hdv : d < v := by omega
    have hbl : (bls bs).length = v := by simp [bls, hb]
    have hbp : ∀ h, (bls bs)[d]'h = .bool true := fun h => by
      have hp2 : d < bs.length := by omega
      have : bs[d] = true := by simpa [bnth, hp2] using hcj
      simp [bls, this]
    obtain ⟨m', g1, g2⟩ := ih (j + 1) { h := m.h, nx := m.nx + 15 } (by omega) hm
    simp only [Int.natCast_add, Int.cast_ofNat_Int] at g2
    refine ⟨m', g1, ?_⟩
    rw [← g2, l04_StrapGroup.L6_eq]
    simp [hj, hw.len, hw.idx hi, ints_head hi, hw.idx hj, ints_head hj, hwp, er, show ¬ v = 0 by omega, hdv, hm, hbl, hbp, hwj]
    done
theorem grp_out {wm : AV} {v : Nat} {ms : List Int} {bs : List Bool} (hw : IsInts wm ms) (hml : ms.length ≤ 31) (hv : 2 ≤ v ∧ v ≤ 31) (hr : ∀ i, i < ms.length → 1 ≤ nth ms i ∧ nth ms i < v) (hb : bs.length = v)
    (hc : ∀ i k, i < ms.length → k < ms.length → bnth bs ((nth ms i * nth ms k) % v).toNat = true) (oid : Nat) : ∀ (k i : Nat) (m : Mem), i + k = ms.length → m.h oid = some (.cells (bls bs)) →
    l04_StrapGroup.L4 (.int .i64 v) wm (.sl oid 1 0 v v) (.int .i64 i) m [.code l04_StrapGroup.r27, .code .ret] = some (.bool true, Mem.empty) := by
  intro k
  induction k with
  | zero =>
    intro i m h1 hm
    have e : i = ms.length := by omega
    subst e
    rw [l04_StrapGroup.L4_eq]
    simp [hw.len]
    done
  | succ k ih =>
    intro i m h1 hm
    have hi : i < ms.length := by omega
    obtain ⟨m', g1, g2⟩ := grp_in hw hml hv hr hb hi (fun k hk => hc i k hi hk) oid [.code l04_StrapGroup.r27, .code .ret] ms.length 0 m (by omega) hm
    simp only [Int.ofNat_zero, Int.cast_ofNat_Int] at g2
    have hst := ih (i + 1) m' (by omega) g1
    simp only [Int.natCast_add, Int.cast_ofNat_Int] at hst
    rw [l04_StrapGroup.L4_eq]
    simp [hi, hw.len, g2, hst]
    done
theorem grp_flags {wm : AV} {v : Nat} {ms : List Int} (hw : IsInts wm ms) (hml : ms.length ≤ 31) (hv : 2 ≤ v ∧ v ≤ 31) (hr : ∀ i, i < ms.length → 1 ≤ nth ms i ∧ nth ms i < v) (oid : Nat) (K : List Item) : ∀ (k i : Nat) (bs : List Bool) (m : Mem), i + k = ms.length → bs.length = v → m.h oid = some (.cells (bls bs)) →
    ∃ m', m'.h oid = some (.cells (bls (turS ms id k i bs))) ∧ l04_StrapGroup.L2 (.int .i64 v) wm (.sl oid 1 0 v v) (.int .i64 i) m K = l04_StrapGroup.L2 (.int .i64 v) wm (.sl oid 1 0 v v) (.int .i64 ms.length) m' K := by
  intro k
  induction k with
  | zero =>
    intro i bs m h1 hb hm
    have e : i = ms.length := by omega
    subst e
    exact ⟨m, by simpa [turS] using hm, rfl⟩
  | succ k ih =>
    intro i bs m h1 hb hm
    have hi : i < ms.length := by omega
    have hwi : IntKind.wrap .i64 ((i : Int) + 1) = (i : Int) + 1 := wrap_id (by omega) (by omega)
    have a1 := hr i hi
    obtain ⟨d, hd⟩ : ∃ d : Nat, nth ms i = d := ⟨(nth ms i).toNat, by omega⟩
    have hdv : d < v := by omega
    have hd1 : ¬ (d : Int) < 1 := by omega
    have hd2 : ¬ (v : Int) ≤ d := by omega
    have hd3 : ¬ d = 0 := by omega
    have hd4 : ¬ v ≤ d := by omega
    have hbl : (bls bs).length = v := by simp [bls, hb]
    have ei : (id (nth ms i)).toNat = d := by rw [hd]; rfl
    obtain ⟨m', g1, g2⟩ := ih (i + 1) (bs.set d true) ⟨upd m.h oid (some (.cells (bls (bs.set d true)))), m.nx⟩ (by omega) (by simp [hb]) (by simp)
    simp only [Int.natCast_add, Int.cast_ofNat_Int] at g2
    refine ⟨m', by rw [turS_succ, ei]; exact g1, ?_⟩
    rw [← g2, l04_StrapGroup.L2_eq]
    simp [hi, hw.len, hw.idx hi, ints_head hi, hd, hd1, hd2, hd3, hd4, hdv, hm, hbl, bls_set, Mem.set, hwi]
    done
/-- From the flags on. -/
theorem grp_tail {v : Nat} {l : List Int} (s : RingOk v l) (oid : Nat) (m : Mem) (hm : m.h oid = some (.cells (bls (List.replicate v false)))) :
    l04_StrapGroup.L2 (.int .i64 v) (intsV (multsL v l)) (.sl oid 1 0 v v) (.int .i64 0) m [.code l04_StrapGroup.r19, .code l04_StrapGroup.k4, .code l04_StrapGroup.r27, .code .ret] = some (.bool true, Mem.empty) := by
  have hv2 := s.v2
  have hv31 := s.v31
  have hw := intsV_is (multsL v l)
  have hml : (multsL v l).length ≤ 31 := by
    have : (multsL v l).length ≤ (unitsL v).length := List.length_filter_le ..
    have := unitsL_few v
    omega
  have hr : ∀ i, i < (multsL v l).length → 1 ≤ nth (multsL v l) i ∧ nth (multsL v l) i < v := fun i hi => by
    obtain ⟨t, e, h1, h2⟩ := mults_nat s (nth_mem hi)
    omega
  have hmul := fun i k (hi : i < (multsL v l).length) (hk : k < (multsL v l).length) => (by
    obtain ⟨t, e, h1, h2⟩ := mults_nat s (nth_mem hi)
    obtain ⟨t', e', h1', h2'⟩ := mults_nat s (nth_mem hk)
    have h := mults_mul s (t := t) (t' := t') (by rw [← e]; exact nth_mem hi) (by rw [← e']; exact nth_mem hk)
    obtain ⟨j, hj, ej⟩ := mem_nth h
    exact ⟨j, hj, by rw [ej, e, e']; simp⟩ : ∃ j, j < (multsL v l).length ∧ nth (multsL v l) j = (nth (multsL v l) i * nth (multsL v l) k) % v)
  generalize multsL v l = ms at *
  obtain ⟨m', g1, g2⟩ := grp_flags hw hml ⟨by omega, by omega⟩ hr oid [.code l04_StrapGroup.r19, .code l04_StrapGroup.k4, .code l04_StrapGroup.r27, .code .ret] ms.length 0 (List.replicate v false) m (by omega) (by simp) hm
  simp only [Int.ofNat_zero, Int.cast_ofNat_Int] at g2
  have hc : ∀ i k, i < ms.length → k < ms.length → bnth (turS ms id ms.length 0 (List.replicate v false)) ((nth ms i * nth ms k) % v).toNat = true := fun i k hi hk => by
    rw [turS_nth (fun j _ hj => by have := hr j (by omega); simp; omega)]
    obtain ⟨j, hj, e⟩ := hmul i k hi hk
    exact .inr ⟨j, by omega, by omega, by rw [← e]; rfl⟩
  have hbl : (turS ms id ms.length 0 (List.replicate v false)).length = v := by
    have : ∀ (k i : Nat) (bs : List Bool), (turS ms id k i bs).length = bs.length := by
      intro k
      induction k with
      | zero => intro i bs; rfl
      | succ k ih => intro i bs; rw [turS_succ, ih, List.length_set]
    rw [this, List.length_replicate]
  have hout := grp_out hw hml ⟨by omega, by omega⟩ hr hbl hc oid ms.length 0
  simp only [Int.ofNat_zero, Int.cast_ofNat_Int] at hout
  rw [g2, l04_StrapGroup.L2_eq]
  simp [hw.len]
  rw [hout m' (by omega) g1]
  done

theorem grp_bits {v : Nat} {x : Int} {x5 : AV} (h31 : v ≤ 31) (oid : Nat) (K : List Item) : ∀ (k i : Nat) (acc : List Int) (m : Mem), i + k = v → acc.length ≤ i → m.h oid = some (.cells (ints acc)) →
    ∃ m', m'.h oid = some (.cells (ints (acc ++ setF x k i))) ∧ l04_StrapGroup.L0 (.int .u32 x) x5 (.int .i64 v) (.sl oid 1 0 acc.length acc.length) (.int .i64 i) m K =
      l04_StrapGroup.L0 (.int .u32 x) x5 (.int .i64 v) (.sl oid 1 0 (acc ++ setF x k i).length (acc ++ setF x k i).length) (.int .i64 v) m' K := by
  intro k
  induction k with
  | zero =>
    intro i acc m h1 ha hm
    have e : i = v := by omega
    subst e
    exact ⟨m, by simpa [setF] using hm, by simp [setF]⟩
  | succ k ih =>
    intro i acc m h1 ha hm
    have hi : i < v := by omega
    have hw : IntKind.wrap .i64 ((i : Int) + 1) = (i : Int) + 1 := wrap_id (by omega) (by omega)
    obtain ⟨y, z, t1, t2, t3⟩ := sb_spec x i
    rw [setF_succ]
    cases q : sb x i with
    | true =>
      rw [q] at t3
      obtain ⟨m', g1, g2⟩ := ih (i + 1) (acc ++ [(i : Int)]) ⟨upd m.h oid (some (.cells (ints (acc ++ [(i : Int)])))), m.nx⟩ (by omega) (by simp; omega) (by simp)
      simp only [Int.natCast_add, Int.cast_ofNat_Int, List.append_assoc, List.singleton_append, List.length_append, List.length_cons, List.length_nil] at g1 g2
      refine ⟨m', by simpa using g1, ?_⟩
      rw [if_pos rfl]
      simp only [List.length_append, List.length_cons]
      rw [← g2, l04_StrapGroup.L0_eq]
      have hx : ints acc ++ [AV.int .i64 (i : Int)] = ints (acc ++ [(i : Int)]) := by simp [ints]
      simp [-binA_shr, -binA_and, t1, t2, t3, hi, hw, hm, hx, show acc.length ≤ 4611686018427387903 by omega, show (acc.length + 1) * 8 ≤ 70368744177664 by omega]
      done
    | false =>
      rw [q] at t3
      obtain ⟨m', g1, g2⟩ := ih (i + 1) acc m (by omega) (by omega) hm
      simp only [Int.natCast_add, Int.cast_ofNat_Int] at g2
      refine ⟨m', by simpa using g1, ?_⟩
      rw [if_neg (by decide), ← g2, l04_StrapGroup.L0_eq]
      simp [-binA_shr, -binA_and, t1, t2, t3, hi, hw]
      done
theorem grp_runs {d : Nat} (a0 a1 a2 : AV) (h0 : DatV prog (d + 4) 5 a0) (h1 : DatV prog (d + 4) 22 a1) (h2 : DatV prog (d + 4) 23 a2) : ∃ m', denC prog ann 3 [a0, a1, a2] Mem.empty = some (.bool true, m') := by
  obtain ⟨v0, rfl, hv0, hv1⟩ := datV5 h0
  obtain ⟨x, rfl⟩ := datV50 h1
  obtain ⟨a, b, c, rfl, ha, hb, hc⟩ := datV23 h2
  have hw0 : IntKind.wrap .i64 v0 = v0 := wrap_id (by omega) (by omega)
  have he0 : v0.tmod 30 = v0 % 30 := Int.tmod_eq_emod_of_nonneg hv0
  obtain ⟨v, hv⟩ : ∃ v : Nat, v0 % 30 + 2 = v := ⟨(v0 % 30 + 2).toNat, by omega⟩
  have hvb : 2 ≤ v ∧ v ≤ 31 := by omega
  have hwv2 : IntKind.wrap .i64 (v : Int) = v := wrap_id (by omega) (by omega)
  have hcl : closedL [.int .u8 v0, .int .u32 x, .agg [.int .u8 a, .int .u8 b, .int .u8 c]] = true := by simp
  refine ⟨Mem.empty, ?_⟩
  rw [l04_StrapGroup.call_eq _ _ _ _ hcl]
  obtain ⟨m', g1, g2⟩ := grp_bits (x := x) (x5 := .fptr [.int .u8 a, .int .u8 b, .int .u8 c]) hvb.2 0 (.code l04_StrapGroup.r7 :: .code l04_StrapGroup.i2 :: .code l04_StrapGroup.r9 :: .code l04_StrapGroup.r10 :: .code l04_StrapGroup.i3 :: .code l04_StrapGroup.r12 :: .code l04_StrapGroup.r13 :: .code l04_StrapGroup.k2 :: [.code l04_StrapGroup.r19, .code l04_StrapGroup.k4, .code l04_StrapGroup.r27, .code .ret]) v 0 [] ⟨upd Mem.empty.h 0 (some (.cells [])), 1⟩ (by omega) (by simp) (by simp)
  simp only [List.nil_append, List.length_nil, Int.ofNat_zero, Int.cast_ofNat_Int] at g1 g2
  simp [hw0, he0, hv, hwv2]
  rw [g2, l04_StrapGroup.L0_eq]
  by_cases q : setF x v 0 = []
  · rw [q] at g1 ⊢
    obtain ⟨q, hq, o, ho, hmd⟩ := made_spec ha hb hc
    have so := ho.ring (tab_ring hq)
    obtain ⟨t1, t2, _⟩ := tab_rng q hq
    generalize tabV q = v at *
    have iv : IsInts (.fsl false o.length (ints o)) o := .inr ⟨false, rfl⟩
    have hm := fun m => mults_spec iv so (ring_err iv so) m
    obtain ⟨r, hr⟩ := mults_one so
    have tl := fun m hm => grp_tail so m'.nx m hm
    rw [hr] at hm tl
    simp [hmd, hm, intsV, lives_spec, show ¬ ((r.length : Int) + 1 = 0) by omega, show v ≤ 4611686018427387904 by omega, show v ≤ 70368744177664 by omega]
    rw [show intsV (1 :: r) = .fsl false (r.length + 1) (.int .i64 1 :: ints r) from rfl] at tl
    rw [tl _ (by simp [bls])]
    rfl
  · have so := ring_set1 hvb.1 hvb.2 q
    have hp : ¬ (setF x v 0).length = 0 := by simpa using q
    have iv : IsInts (.fsl false (setF x v 0).length (ints (setF x v 0))) (setF x v 0) := .inr ⟨false, rfl⟩
    have hm := fun m => mults_spec iv so (ring_err iv so) m
    obtain ⟨r, hr⟩ := mults_one so
    have tl := fun m hm => grp_tail so m'.nx m hm
    rw [hr] at hm tl
    have htk : List.take (setF x v 0).length (ints (setF x v 0)) = ints (setF x v 0) := by rw [List.take_of_length_le]; simp
    simp [hp, q, g1, htk, hm, intsV, lives_spec, show ¬ ((r.length : Int) + 1 = 0) by omega, show v ≤ 4611686018427387904 by omega, show v ≤ 70368744177664 by omega]
    rw [show intsV (1 :: r) = .fsl false (r.length + 1) (.int .i64 1 :: ints r) from rfl] at tl
    rw [tl _ (by simp [bls])]
    rfl
end Go.Proofs.YtofceaeboboflaaDoor
