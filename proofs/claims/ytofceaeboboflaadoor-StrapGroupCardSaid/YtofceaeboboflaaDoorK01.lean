/-
  STRAPS (7): the first four holes with one distance are those that the four loops find. Conditions: none.
-/
import Derived.Test.YtofceaeboboflaaDoorK00
import Derived.Test.YtofceaeboboflaaDoorKAmH
set_option linter.all false
namespace Go.Proofs.YtofceaeboboflaaDoor
open Go.AM
set_option linter.all false
set_option maxRecDepth 10000
set_option maxHeartbeats 2000000

def key (q : List Int) : List Int := [nth q 1 - nth q 0, nth q 0, nth q 2]
def Val (l : List Int) (i j m n : Nat) : Prop := nth l j - nth l i = nth l n - nth l m
theorem twC_key (b q : List Int) : twC b q = (decide (b = []) || lexLt (key q) (key b)) := by
  simp only [twC, key, lexLt]
  by_cases h : nth q 1 - nth q 0 = nth b 1 - nth b 0
  · simp [h]
  · simp [h]
/-- The best of what was seen. -/
def BestOk (l : List Int) (S : Nat → Nat → Nat → Nat → Prop) (b : List Int) : Prop :=
  (b = [] ∨ ∃ i j m n, S i j m n ∧ Val l i j m n ∧ b = twQ l i j m n) ∧ ∀ i j m n, S i j m n → Val l i j m n → b ≠ [] ∧ lexLt (key (twQ l i j m n)) (key b) = false
theorem BestOk.congr {l : List Int} {S S' : Nat → Nat → Nat → Nat → Prop} {b : List Int} (h : BestOk l S b) (e : ∀ i j m n, S i j m n ↔ S' i j m n) : BestOk l S' b := by
  have : S = S' := by funext i j m n; exact propext (e i j m n)
  rwa [← this]
theorem BestOk.step {l : List Int} {S : Nat → Nat → Nat → Nat → Prop} {b : List Int} (h : BestOk l S b) (i j m n : Nat) : BestOk l (fun i' j' m' n' => S i' j' m' n' ∨ (i' = i ∧ j' = j ∧ m' = m ∧ n' = n)) (tw7 l i j m n b) := by
  unfold tw7
  by_cases v : nth l j - nth l i = nth l n - nth l m
  · rw [if_pos v, twC_key]
    cases t : (decide (b = []) || lexLt (key (twQ l i j m n)) (key b)) with
    | true =>
      rw [if_pos rfl]
      refine ⟨.inr ⟨i, j, m, n, .inr ⟨rfl, rfl, rfl, rfl⟩, v, rfl⟩, ?_⟩
      rintro i' j' m' n' (hs | ⟨rfl, rfl, rfl, rfl⟩) v'
      · refine ⟨by simp [twQ], ?_⟩
        obtain ⟨h1, h2⟩ := h.2 i' j' m' n' hs v'
        rw [decide_eq_false h1, Bool.false_or] at t
        cases q : lexLt (key (twQ l i' j' m' n')) (key (twQ l i j m n)) with
        | false => rfl
        | true => rw [lex_trans q t] at h2; cases h2
      · exact ⟨by simp [twQ], lexLt_irr _⟩
    | false =>
      rw [if_neg (by decide)]
      simp only [Bool.or_eq_false_iff, decide_eq_false_iff_not] at t
      refine ⟨h.1.imp id (fun ⟨i', j', m', n', a, b⟩ => ⟨i', j', m', n', .inl a, b⟩), ?_⟩
      rintro i' j' m' n' (hs | ⟨rfl, rfl, rfl, rfl⟩) v'
      · exact h.2 i' j' m' n' hs v'
      · exact t
  · rw [if_neg v]
    refine ⟨h.1.imp id (fun ⟨i', j', m', n', a, b⟩ => ⟨i', j', m', n', .inl a, b⟩), ?_⟩
    rintro i' j' m' n' (hs | ⟨rfl, rfl, rfl, rfl⟩) v'
    · exact h.2 i' j' m' n' hs v'
    · exact absurd v' v
theorem BestOk.six {l : List Int} (i j m : Nat) : ∀ (k n : Nat) {S : Nat → Nat → Nat → Nat → Prop} {b : List Int}, BestOk l S b → BestOk l (fun i' j' m' n' => S i' j' m' n' ∨ (i' = i ∧ j' = j ∧ m' = m ∧ n ≤ n' ∧ n' < n + k)) (tw6 l i j m k n b)
  | 0, n, S, b, h => h.congr fun i' j' m' n' => ⟨.inl, fun h => h.elim id fun h => by omega⟩
  | k + 1, n, S, b, h => by
    rw [tw6_succ]
    refine ((h.step i j m n).six i j m k (n + 1)).congr fun i' j' m' n' => ⟨?_, ?_⟩
    · rintro ((h | h) | h)
      · exact .inl h
      · exact .inr (by omega)
      · exact .inr (by omega)
    · rintro (h | h)
      · exact .inl (.inl h)
      · by_cases e : n' = n
        · exact .inl (.inr (by omega))
        · exact .inr (by omega)
theorem BestOk.four {l : List Int} (i j : Nat) : ∀ (k m : Nat) {S : Nat → Nat → Nat → Nat → Prop} {b : List Int}, m + k ≤ l.length → BestOk l S b → BestOk l (fun i' j' m' n' => S i' j' m' n' ∨ (i' = i ∧ j' = j ∧ (m ≤ m' ∧ m' < m + k) ∧ m' < n' ∧ n' < l.length)) (tw4 l i j k m b)
  | 0, m, S, b, _, h => h.congr fun i' j' m' n' => ⟨.inl, fun h => h.elim id fun h => by omega⟩
  | k + 1, m, S, b, hk, h => by
    rw [tw4_succ]
    refine (BestOk.four i j k (m + 1) (by omega) (h.six i j m (l.length - (m + 1)) (m + 1))).congr fun i' j' m' n' => ⟨?_, ?_⟩
    · rintro ((h | h) | h)
      · exact .inl h
      · exact .inr (by omega)
      · exact .inr (by omega)
    · rintro (h | h)
      · exact .inl (.inl h)
      · by_cases e : m' = m
        · exact .inl (.inr (by omega))
        · exact .inr (by omega)
theorem BestOk.two {l : List Int} (i : Nat) (hi : i < l.length) : ∀ (k j : Nat) {S : Nat → Nat → Nat → Nat → Prop} {b : List Int}, j + k ≤ l.length → BestOk l S b → BestOk l (fun i' j' m' n' => S i' j' m' n' ∨ (i' = i ∧ (j ≤ j' ∧ j' < j + k) ∧ i < m' ∧ m' < n' ∧ n' < l.length)) (tw2 l i k j b)
  | 0, j, S, b, _, h => h.congr fun i' j' m' n' => ⟨.inl, fun h => h.elim id fun h => by omega⟩
  | k + 1, j, S, b, hk, h => by
    rw [tw2_succ]
    refine (BestOk.two i hi k (j + 1) (by omega) (h.four i j (l.length - (i + 1)) (i + 1) (by omega))).congr fun i' j' m' n' => ⟨?_, ?_⟩
    · rintro ((h | h) | h)
      · exact .inl h
      · exact .inr (by omega)
      · exact .inr (by omega)
    · rintro (h | h)
      · exact .inl (.inl h)
      · by_cases e : j' = j
        · exact .inl (.inr (by omega))
        · exact .inr (by omega)
theorem BestOk.zero {l : List Int} : ∀ (k i : Nat) {S : Nat → Nat → Nat → Nat → Prop} {b : List Int}, i + k ≤ l.length → BestOk l S b → BestOk l (fun i' j' m' n' => S i' j' m' n' ∨ ((i ≤ i' ∧ i' < i + k) ∧ (i' < j' ∧ j' < l.length) ∧ i' < m' ∧ m' < n' ∧ n' < l.length)) (tw0 l k i b)
  | 0, i, S, b, _, h => h.congr fun i' j' m' n' => ⟨.inl, fun h => h.elim id fun h => by omega⟩
  | k + 1, i, S, b, hk, h => by
    rw [tw0_succ]
    refine (BestOk.zero k (i + 1) (by omega) (h.two i (by omega) (l.length - (i + 1)) (i + 1) (by omega))).congr fun i' j' m' n' => ⟨?_, ?_⟩
    · rintro ((h | h) | h)
      · exact .inl h
      · exact .inr (by omega)
      · exact .inr (by omega)
    · rintro (h | h)
      · exact .inl (.inl h)
      · by_cases e : i' = i
        · exact .inl (.inr (by omega))
        · exact .inr (by omega)
def Quad (l : List Int) (i j m n : Nat) : Prop := (i < j ∧ j < l.length) ∧ i < m ∧ m < n ∧ n < l.length
theorem nth_mem {l : List Int} {i : Nat} (h : i < l.length) : nth l i ∈ l := by rw [← nth_get h]; exact List.getElem_mem h
end Go.Proofs.YtofceaeboboflaaDoor

/-
  STRAPS (9): the search for the first list. Conditions: none.
-/
namespace Go.Proofs.YtofceaeboboflaaDoor
open Go.AM
open Go.Proofs.Tryd (prog)
set_option linter.all false
set_option maxRecDepth 100000
set_option maxHeartbeats 4000000

/-! ### The greatest of a list; single lists -/
def maxL (c : List Int) : Int := (c.drop 1).foldl max (nth c 0)
def gSingle (l : List Int) : Bool := decide (maxL (counts l) ≤ 1)
/-! ### The search -/
def firstF (r : List Int → Option (List Int)) (l : List Int) : Nat → Int → Option (List Int)
  | 0, _ => none
  | n + 1, x => match r (l ++ [x]) with
    | some q => some q
    | none => firstF r l n (x + 1)
def findF (g e : List Int → Bool) (last : Int) : Nat → List Int → Option (List Int)
  | 0, l => if g l = true then (if e l = true then some l else none) else none
  | f + 1, l => if g l = true then firstF (findF g e last f) l (last - f - top l).toNat (top l + 1) else none
def ResV (r : Option (List Int)) (w : AV) : Prop := match r with
  | none => w = .nils
  | some l => ∃ ex, w = .fsl ex l.length (ints l)
/-- A function value that answers a question about straps. -/
structure Clo (gV : AV) (g : List Int → Bool) (d : Nat) (last : Int) : Prop where
  closed : gV.closed = true
  one : gV.one = true
  says : ∀ {w : AV} {l : List Int}, IsInts w l → StrapOk l → top l ≤ last → ∀ m, callA (fun g => (ann g).pure) (denC prog ann) 0 m gV [w] = some (.bool (g l), ⟨m.h, m.nx + d⟩)
end Go.Proofs.YtofceaeboboflaaDoor

/-
  STRAPS (12): round straps: the tests, how often each difference comes. Conditions: none.
-/
namespace Go.Proofs.YtofceaeboboflaaDoor
open Go.AM
open Go.Proofs.Tryd (prog)
set_option linter.all false
set_option maxRecDepth 100000
set_option maxHeartbeats 4000000

/-- A round strap: places below v, rising. -/
structure RingOk (v : Int) (l : List Int) : Prop where
  v2 : 2 ≤ v
  v31 : v ≤ 31
  pos : 0 < l.length
  few : l.length ≤ 31
  rng : ∀ i, i < l.length → 0 ≤ nth l i ∧ nth l i < v
  asc : ∀ i, i + 1 < l.length → nth l i < nth l (i + 1)
theorem RingOk.lt {v : Int} {l : List Int} (s : RingOk v l) {i : Nat} : ∀ {j : Nat}, i < j → j < l.length → nth l i < nth l j
  | j + 1, h, hj => by
    rcases Nat.eq_or_lt_of_le (Nat.le_of_lt_succ h) with e | e
    · subst e; exact s.asc i hj
    · exact Int.lt_trans (s.lt e (by omega)) (s.asc j hj)
/-- Why places are no round strap. -/
inductive RingErr (v : Int) (l : List Int) : Int → Prop where
  | long (h : 31 < l.length) : RingErr v l 3
  | arg (h : l.length ≤ 31) (h2 : v < 2 ∨ 31 < v) : RingErr v l 1
  | form (h : l.length ≤ 31) (h2 : 2 ≤ v ∧ v ≤ 31) (h3 : ¬ RingOk v l) : RingErr v l 2
  | ok (h : RingOk v l) : RingErr v l 0
theorem RingErr.uniq {v : Int} {l : List Int} {a b : Int} (h : RingErr v l a) (k : RingErr v l b) : a = b := by
  cases h with
  | long h => cases k with
    | long _ => rfl
    | arg h2 _ => omega
    | form h2 _ _ => omega
    | ok s => have := s.few; omega
  | arg h h2 => cases k with
    | long _ => omega
    | arg _ _ => rfl
    | form _ h3 _ => omega
    | ok s => have := s.v2; have := s.v31; omega
  | form h h2 h3 => cases k with
    | long _ => omega
    | arg _ _ => omega
    | form _ _ _ => rfl
    | ok s => exact absurd s h3
  | ok s => cases k with
    | long _ => have := s.few; omega
    | arg _ _ => have := s.v2; have := s.v31; omega
    | form _ _ h => exact absurd s h
    | ok _ => rfl
def rOk (v : Int) (l : List Int) (j : Nat) : Bool := decide (0 ≤ nth l j ∧ nth l j < v) && (decide (j = 0) || decide (nth l (j - 1) < nth l j))
theorem rOk_ring {v : Int} {l : List Int} (h2 : 2 ≤ v ∧ v ≤ 31) (h : 0 < l.length ∧ l.length ≤ 31) : RingOk v l ↔ (List.range' 0 l.length).all (rOk v l) = true := by
  rw [List.all_eq_true]
  constructor
  · intro s j hj
    simp [List.mem_range'_1] at hj
    have := s.rng j hj
    simp only [rOk, Bool.and_eq_true, Bool.or_eq_true, decide_eq_true_eq]
    refine ⟨this, ?_⟩
    by_cases e : j = 0
    · exact .inl e
    · have := s.asc (j - 1) (by omega)
      rw [show j - 1 + 1 = j by omega] at this
      exact .inr this
  · intro a
    have a' : ∀ j, j < l.length → rOk v l j = true := fun j hj => a j (by simp [List.mem_range'_1]; exact hj)
    refine ⟨h2.1, h2.2, h.1, h.2, fun i hi => ?_, fun i hi => ?_⟩
    · have := a' i hi
      simp only [rOk, Bool.and_eq_true, decide_eq_true_eq] at this
      exact this.1
    · have := a' (i + 1) hi
      simp only [rOk, Bool.and_eq_true, Bool.or_eq_true, decide_eq_true_eq] at this
      rcases this.2 with e | e
      · omega
      · exact e
theorem ring_loop {w : AV} {l : List Int} (hv : IsInts w l) (hl : l.length ≤ 31) (v : Int) : ∀ (k i : Nat) (m : Mem), i + k = l.length →
    strap_ring.L1 (.int .i64 v) w w (.int .i64 l.length) (.int .i64 i) m [.code strap_ring.r13, .code .ret] = some (.int .i64 (if (List.range' i k).all (rOk v l) = true then 0 else 2), Mem.empty) := by
  intro k
  induction k with
  | zero =>
    intro i m h1
    have e : i = l.length := by omega
    rw [strap_ring.L1_eq]
    simp [e]
    done
  | succ k ih =>
    intro i m h1
    have hi : i < l.length := by omega
    have hw : IntKind.wrap .i64 ((i : Int) + 1) = (i : Int) + 1 := wrap_id (by omega) (by omega)
    have hst := fun m => ih (i + 1) m (by omega)
    simp only [Int.natCast_add, Int.cast_ofNat_Int] at hst
    have e : (List.range' i (k + 1)).all (rOk v l) = (rOk v l i && (List.range' (i + 1) k).all (rOk v l)) := by simp [List.range'_succ]
    rw [e, strap_ring.L1_eq]
    by_cases q1 : nth l i < 0
    · have ho : rOk v l i = false := by simp [rOk]; omega
      rw [ho, Bool.false_and]
      simp [hi, hv.idx hi, ints_head hi, q1]
      done
    · by_cases q2 : v ≤ nth l i
      · have ho : rOk v l i = false := by simp [rOk]; omega
        rw [ho, Bool.false_and]
        simp [hi, hv.idx hi, ints_head hi, q1, q2]
        done
      · by_cases hz : i = 0
        · subst hz
          have ho : rOk v l 0 = true := by simp [rOk]; omega
          rw [ho, Bool.true_and]
          have i0 := hv.idx hi .i64
          have i1 := ints_head hi
          simp only [Int.ofNat_zero, Int.cast_ofNat_Int, List.drop_zero, Int.zero_add, Nat.zero_add] at i0 i1 hst hw
          simp [hi, i0, i1, q1, q2, hw, hst]
          done
        · have hw1 : IntKind.wrap .i64 ((i : Int) - 1) = ((i - 1 : Nat) : Int) := by rw [wrap_id (by omega) (by omega)]; omega
          have hj : i - 1 < l.length := by omega
          have hp : 0 < i := by omega
          by_cases q3 : nth l i ≤ nth l (i - 1)
          · have ho : rOk v l i = false := by simp [rOk]; omega
            rw [ho, Bool.false_and]
            simp [hi, hv.idx hi, ints_head hi, q1, q2, hw1, hv.idx hj, ints_head hj, hp, q3]
            done
          · have ho : rOk v l i = true := by simp [rOk]; omega
            rw [ho, Bool.true_and]
            simp [hi, hv.idx hi, ints_head hi, q1, q2, hw1, hv.idx hj, ints_head hj, hp, q3, hw, hst]
            done
theorem ring_spec {w : AV} {l : List Int} (hv : IsInts w l) (hl : l.length < 1000000) (v : Int) : ∃ e, RingErr v l e ∧ ∀ m, denC prog ann 14 [.int .i64 v, w] m = some (.int .i64 e, m) := by
  have hcl : closedL [.int .i64 v, w] = true := by simp [hv.closed]
  by_cases q1 : (31 : Int) < l.length
  · refine ⟨3, .long (by omega), fun m => ?_⟩
    rw [strap_ring.call_eq _ _ _ hcl]
    simp [hv.len, q1]
    done
  · by_cases q2 : v < 2
    · refine ⟨1, .arg (by omega) (.inl q2), fun m => ?_⟩
      rw [strap_ring.call_eq _ _ _ hcl]
      simp [hv.len, q1, q2]
      done
    · by_cases q3 : 31 < v
      · refine ⟨1, .arg (by omega) (.inr q3), fun m => ?_⟩
        rw [strap_ring.call_eq _ _ _ hcl]
        simp [hv.len, q1, q2, q3]
        done
      · by_cases q4 : l.length = 0
        · refine ⟨2, .form (by omega) (by omega) (fun s => by have := s.pos; omega), fun m => ?_⟩
          rw [strap_ring.call_eq _ _ _ hcl]
          simp [hv.len, q1, q2, q3, q4]
          done
        · have q4' : ¬ l = [] := fun e => q4 (by rw [e]; rfl)
          have lp := fun m => ring_loop hv (by omega) v l.length 0 m (by omega)
          simp only [Int.ofNat_zero, Int.cast_ofNat_Int] at lp
          have hro := rOk_ring (v := v) (l := l) (by omega) (by omega)
          by_cases q5 : (List.range' 0 l.length).all (rOk v l) = true
          · refine ⟨0, .ok (hro.2 q5), fun m => ?_⟩
            simp only [if_pos q5] at lp
            rw [strap_ring.call_eq _ _ _ hcl]
            simp [hv.len, q1, q2, q3, q4', lp]
            done
          · refine ⟨2, .form (by omega) (by omega) (fun s => q5 (hro.1 s)), fun m => ?_⟩
            simp only [if_neg q5] at lp
            rw [strap_ring.call_eq _ _ _ hcl]
            simp [hv.len, q1, q2, q3, q4', lp]
            done
/-! ### How often each difference comes -/
def dfF (l : List Int) (v : Int) (i : Nat) (k j : Nat) (c : List Int) : List Int := (List.range' j k).foldl (fun c q => if i = q then c else bump c ((nth l i - nth l q + v).tmod v).toNat) c
def dfO (l : List Int) (v : Int) (k i : Nat) (c : List Int) : List Int := (List.range' i k).foldl (fun c i => dfF l v i l.length 0 c) c
theorem dfF_succ (l : List Int) (v : Int) (i k j : Nat) (c : List Int) : dfF l v i (k + 1) j c = dfF l v i k (j + 1) (if i = j then c else bump c ((nth l i - nth l j + v).tmod v).toNat) := by simp [dfF, List.range'_succ]
theorem Small.dfF {l : List Int} {v : Int} {i : Nat} : ∀ {k j : Nat} {c : List Int} {B : Int}, Small c B → 0 ≤ B → Small (Go.Proofs.YtofceaeboboflaaDoor.dfF l v i k j c) (B + k)
  | 0, _, _, _, h, _ => by simpa [Go.Proofs.YtofceaeboboflaaDoor.dfF] using h
  | k + 1, j, c, B, h, hB => by
    rw [dfF_succ]
    have h1 : Small (if i = j then c else Go.AM.bump c ((nth l i - nth l j + v).tmod v).toNat) (B + 1) := by
      split
      · intro g; have := h g; omega
      · exact h.bump hB _
    have := h1.dfF (l := l) (v := v) (i := i) (k := k) (j := j + 1) (by omega)
    rwa [show B + 1 + (k : Int) = B + ((k + 1 : Nat) : Int) by omega] at this
def diffs (v : Int) (l : List Int) : List Int := dfO l v l.length 0 (List.replicate v.toNat 0)
theorem RingOk.ne {v : Int} {l : List Int} (s : RingOk v l) {i j : Nat} (hi : i < l.length) (hj : j < l.length) : nth l i = nth l j ↔ i = j := by
  constructor
  · intro h
    rcases Nat.lt_trichotomy i j with q | q | q
    · have := s.lt q hj; omega
    · exact q
    · have := s.lt q hi; omega
  · intro h; rw [h]
end Go.Proofs.YtofceaeboboflaaDoor

/-
  STRAPS (20): a set multiplied and moved, sorted by the library. Conditions: none.
-/
namespace Go.Proofs.YtofceaeboboflaaDoor
open Go.AM
open Go.Proofs.Tryd (prog)
set_option linter.all false
set_option maxRecDepth 100000
set_option maxHeartbeats 4000000

def mvF (v t s x : Int) : Int := (x * t + s).tmod v
def fillF (l : List Int) (f : Int → Int) (k i : Nat) (c : List Int) : List Int := (List.range' i k).foldl (fun c i => c.set i (f (nth l i))) c
theorem fillF_succ (l : List Int) (f : Int → Int) (k i : Nat) (c : List Int) : fillF l f (k + 1) i c = fillF l f k (i + 1) (c.set i (f (nth l i))) := by simp [fillF, List.range'_succ]
theorem fillF_len (l : List Int) (f : Int → Int) : ∀ (k i : Nat) (c : List Int), (fillF l f k i c).length = c.length
  | 0, _, _ => rfl
  | k + 1, i, c => by rw [fillF_succ, fillF_len]; simp
theorem fillF_nth (l : List Int) (f : Int → Int) : ∀ (k i : Nat) (c : List Int) (g : Nat), i + k ≤ c.length → nth (fillF l f k i c) g = if i ≤ g ∧ g < i + k then f (nth l g) else nth c g
  | 0, i, c, g, _ => by rw [if_neg (by omega)]; rfl
  | k + 1, i, c, g, h => by
    rw [fillF_succ, fillF_nth l f k (i + 1) _ g (by simp; omega), nth_set]
    by_cases e : i = g
    · subst e
      rw [if_neg (by omega), if_pos (by omega), if_pos (by omega)]
    · by_cases q : i + 1 ≤ g ∧ g < i + 1 + k
      · rw [if_pos q, if_pos (by omega)]
      · rw [if_neg q, if_neg (fun h => e h.1), if_neg (by omega)]
theorem fillF_all (l : List Int) (f : Int → Int) (c : List Int) (h : c.length = l.length) : fillF l f l.length 0 c = l.map f := by
  refine ext_nth (by rw [fillF_len, List.length_map, h]) fun g => ?_
  rw [fillF_nth l f _ _ _ _ (by omega)]
  by_cases q : g < l.length
  · rw [if_pos (by omega)]
    simp [nth, List.getD, q]
  · rw [if_neg (by omega)]
    simp [nth, List.getD, List.getElem?_eq_none (show c.length ≤ g by omega), List.getElem?_eq_none (show (l.map f).length ≤ g by simp; omega)]
theorem mv_fill {w : AV} {v t s : Int} {l : List Int} (hv : IsInts w l) (hl : l.length ≤ 31) (h0 : 0 < l.length) (hr : ∀ i, i < l.length → 0 ≤ nth l i ∧ nth l i < 31) (hv2 : 1 ≤ v ∧ v ≤ 31) (ht : 0 ≤ t ∧ t ≤ 31) (hs : 0 ≤ s ∧ s ≤ 31) (oid : Nat) : ∀ (k i : Nat) (c : List Int) (m : Mem), i + k = l.length → c.length = l.length → m.h oid = some (.cells (ints c)) →
    strap_moved.L2 (.int .i64 v) (.int .i64 t) (.int .i64 s) (.sl oid 1 0 l.length l.length) w (.int .i64 l.length) (.int .i64 i) m [.code strap_moved.r11, .code strap_moved.r12, .code .ret] = some (.fsl false l.length (ints (sortI (fillF l (mvF v t s) k i c))), Mem.empty) := by
  intro k
  induction k with
  | zero =>
    intro i c m h1 hc hm
    have e : i = l.length := by omega
    subst e
    have so := sort_spec oid c (by omega) (by omega) m hm
    rw [hc] at so
    have hsl := sortI_len c
    have htk : (sortI c).take l.length = sortI c := List.take_of_length_le (by omega)
    rw [strap_moved.L2_eq]
    simp [so, sort_pure, Mem.set, fillF, hsl, hc, htk]
    done
  | succ k ih =>
    intro i c m h1 hc hm
    have hi : i < l.length := by omega
    have hw : IntKind.wrap .i64 ((i : Int) + 1) = (i : Int) + 1 := wrap_id (by omega) (by omega)
    have hx := hr i hi
    have p0 : 0 ≤ nth l i * t := Int.mul_nonneg (by omega) (by omega)
    have p1 : nth l i * t ≤ 31 * 31 := Int.mul_le_mul (by omega) (by omega) (by omega) (by omega)
    have hw1 : IntKind.wrap .i64 (nth l i * t) = nth l i * t := wrap_id (by omega) (by omega)
    have hw2 : IntKind.wrap .i64 (nth l i * t + s) = nth l i * t + s := wrap_id (by omega) (by omega)
    have hv0 : ¬ v = 0 := by omega
    have hst := ih (i + 1) (c.set i (mvF v t s (nth l i))) ⟨upd m.h oid (some (.cells (ints (c.set i (mvF v t s (nth l i)))))), m.nx⟩ (by omega) (by simp [hc]) (by simp)
    simp only [Int.natCast_add, Int.cast_ofNat_Int] at hst
    rw [fillF_succ, ← hst, strap_moved.L2_eq]
    simp [hi, hv.idx hi, ints_head hi, hw1, hw2, hv0, hc, hm, hw, mvF]
    done
def mvL (v t s : Int) (l : List Int) : List Int := sortI (l.map (mvF v t s))
theorem mv_zero {w : AV} {v t s : Int} {l : List Int} (hv : IsInts w l) (hl : l.length ≤ 31) (h0 : 0 < l.length) (hr : ∀ i, i < l.length → 0 ≤ nth l i ∧ nth l i < 31) (hv2 : 1 ≤ v ∧ v ≤ 31) (ht : 0 ≤ t ∧ t ≤ 31) (hs : 0 ≤ s ∧ s ≤ 31) : ∀ (k i oid : Nat) (m : Mem), i + k = l.length → OutI m oid (List.replicate i 0) →
    strap_moved.L0 (.int .i64 v) w (.int .i64 t) (.int .i64 s) (outI oid (List.replicate i 0)) (.int .i64 l.length) (.int .i64 i) m [.code strap_moved.r6, .code strap_moved.k2, .code strap_moved.r11, .code strap_moved.r12, .code .ret] = some (.fsl false l.length (ints (mvL v t s l)), Mem.empty) := by
  intro k
  induction k with
  | zero =>
    intro i oid m h1 ho
    have e : i = l.length := by omega
    subst e
    have hne : List.replicate l.length (0 : Int) ≠ [] := by simp; intro e; rw [e] at h0; simp at h0
    obtain ⟨hm, _⟩ := ho hne
    have lp := mv_fill hv hl h0 hr hv2 ht hs oid l.length 0 (List.replicate l.length 0) m (by omega) (by simp) hm
    simp only [Int.ofNat_zero, Int.cast_ofNat_Int] at lp
    rw [fillF_all l _ _ (by simp)] at lp
    rw [outI, if_neg hne, List.length_replicate, strap_moved.L0_eq]
    simp [hv.len, lp, mvL]
    done
  | succ k ih =>
    intro i oid m h1 ho
    have hi : i < l.length := by omega
    have hw : IntKind.wrap .i64 ((i : Int) + 1) = (i : Int) + 1 := wrap_id (by omega) (by omega)
    obtain ⟨oid', m', g1, g2, _⟩ := outI_appT ho (by simp; omega) 0
    have er : List.replicate i (0 : Int) ++ [0] = List.replicate (i + 1) 0 := by rw [List.replicate_succ']
    rw [er] at g1 g2
    have hst := ih (i + 1) oid' m' (by omega) g2
    simp only [Int.natCast_add, Int.cast_ofNat_Int] at hst
    rw [strap_moved.L0_eq]
    simp [hi, g1, hw, hst]
    done
theorem moved_spec {w : AV} {v t s : Int} {l : List Int} (hv : IsInts w l) (hl : l.length ≤ 31) (h0 : 0 < l.length) (hr : ∀ i, i < l.length → 0 ≤ nth l i ∧ nth l i < 31) (hv2 : 1 ≤ v ∧ v ≤ 31) (ht : 0 ≤ t ∧ t ≤ 31) (hs : 0 ≤ s ∧ s ≤ 31) (m : Mem) :
    denC prog ann 17 [.int .i64 v, w, .int .i64 t, .int .i64 s] m = some (.fsl false l.length (ints (mvL v t s l)), m) := by
  have hcl : closedL [.int .i64 v, w, .int .i64 t, .int .i64 s] = true := by simp [hv.closed]
  have lp := mv_zero hv hl h0 hr hv2 ht hs l.length 0 0 Mem.empty (by omega) (fun h => absurd rfl h)
  rw [show outI 0 (List.replicate 0 0) = .nils from rfl] at lp
  simp only [Int.ofNat_zero, Int.cast_ofNat_Int] at lp
  rw [strap_moved.call_eq _ _ _ _ _ hcl]
  simp [hv.len, lp]
  done
end Go.Proofs.YtofceaeboboflaaDoor

/-
  STRAPS (21): common divisors, units, the same list (slices.Equal). Conditions: none.
-/
namespace Go.Proofs.YtofceaeboboflaaDoor
open Go.AM
open Go.Proofs.Tryd (prog)
set_option linter.all false
set_option maxRecDepth 100000
set_option maxHeartbeats 4000000

theorem gcd_step (a b : Nat) : Nat.gcd a (b + 1) = Nat.gcd (b + 1) (a % (b + 1)) := by
  rw [Nat.gcd_comm a, Nat.gcd_rec (b + 1) a, Nat.gcd_comm]
theorem div_loop : ∀ (n a b : Nat) (m : Mem), b ≤ n → strap_divisor.L0 (.int .i64 a) (.int .i64 b) m [.code strap_divisor.r3, .code .ret] = some (.int .i64 (Nat.gcd a b), Mem.empty)
  | n, a, 0, m, _ => by
    rw [strap_divisor.L0_eq]
    simp
    done
  | 0, a, b + 1, m, h => by omega
  | n + 1, a, b + 1, m, h => by
    have hlt := Nat.mod_lt a (show 0 < b + 1 by omega)
    have ih := div_loop n (b + 1) (a % (b + 1)) ⟨m.h, m.nx + 6⟩ (by omega)
    have e : (a : Int).tmod ((b + 1 : Nat) : Int) = ((a % (b + 1) : Nat) : Int) := by rw [Int.tmod_eq_emod_of_nonneg (by omega)]; rfl
    have hb : ¬ ((b + 1 : Nat) : Int) = 0 := by omega
    rw [gcd_step, ← ih]
    generalize ((b + 1 : Nat) : Int) = B at *
    rw [strap_divisor.L0_eq]
    simp [hb, e]
    done
theorem div_spec (a b : Nat) (m : Mem) : denC prog ann 25 [.int .i64 a, .int .i64 b] m = some (.int .i64 (Nat.gcd a b), m) := by
  have lp := div_loop b a b Mem.empty (Nat.le_refl _)
  rw [strap_divisor.call_eq _ _ _ rfl]
  simp [lp]
  done
theorem gcd_loop : ∀ (n a b : Nat) (m : Mem), b ≤ n → r04_Gcd.L0 (.int .i64 a) (.int .i64 b) m [.code r04_Gcd.r3, .code .ret] = some (.int .i64 (Nat.gcd a b), Mem.empty)
  | n, a, 0, m, _ => by
    rw [r04_Gcd.L0_eq]
    simp
    done
  | 0, a, b + 1, m, h => by omega
  | n + 1, a, b + 1, m, h => by
    have hlt := Nat.mod_lt a (show 0 < b + 1 by omega)
    have ih := gcd_loop n (b + 1) (a % (b + 1)) ⟨m.h, m.nx + 6⟩ (by omega)
    have e : (a : Int).tmod ((b + 1 : Nat) : Int) = ((a % (b + 1) : Nat) : Int) := by rw [Int.tmod_eq_emod_of_nonneg (by omega)]; rfl
    have hb : ¬ ((b + 1 : Nat) : Int) = 0 := by omega
    have hb2 : (0 : Int) < ((b + 1 : Nat) : Int) := by omega
    rw [gcd_step, ← ih]
    generalize ((b + 1 : Nat) : Int) = B at *
    rw [r04_Gcd.L0_eq]
    simp [hb, hb2, e]
    done
theorem gcd_spec (a b : Nat) (m : Mem) : denC prog ann 12 [.int .i64 a, .int .i64 b] m = some (.int .i64 (Nat.gcd a b), m) := by
  have lp := gcd_loop b a b Mem.empty (Nat.le_refl _)
  rw [r04_Gcd.call_eq _ _ _ rfl]
  simp [lp]
  done
/-! ### The units -/
def uniF (v k i : Nat) : List Int := ((List.range' i k).filter fun t => decide (Nat.gcd t v = 1)).map fun t : Nat => (t : Int)
theorem uniF_succ (v k i : Nat) : uniF v (k + 1) i = if Nat.gcd i v = 1 then (i : Int) :: uniF v k (i + 1) else uniF v k (i + 1) := by
  simp only [uniF, List.range'_succ, List.filter_cons]
  by_cases h : Nat.gcd i v = 1 <;> simp [h]
theorem uni_loop {v : Nat} (hv : v ≤ 31) : ∀ (k i oid : Nat) (acc : List Int) (m : Mem), i + k = v → OutI m oid acc → acc.length ≤ i →
    strap_units.L0 (.int .i64 v) (outI oid acc) (.int .i64 v) (.int .i64 i) m [.code strap_units.r8, .code .ret] = some (intsV (acc ++ uniF v k i), Mem.empty) := by
  intro k
  induction k with
  | zero =>
    intro i oid acc m h1 ho ha
    have e : i = v := by omega
    subst e
    have hd := outI_deep ho
    rw [strap_units.L0_eq]
    simp [uniF, hd]
    done
  | succ k ih =>
    intro i oid acc m h1 ho ha
    have hi : i < v := by omega
    have hw : IntKind.wrap .i64 ((i : Int) + 1) = (i : Int) + 1 := wrap_id (by omega) (by omega)
    have hd := fun m => div_spec i v m
    by_cases q : Nat.gcd i v = 1
    · rw [q] at hd
      obtain ⟨oid', m', g1, g2, _⟩ := outI_appT ho (by omega) (i : Int)
      have hst := ih (i + 1) oid' (acc ++ [(i : Int)]) m' (by omega) g2 (by simp; omega)
      simp only [Int.natCast_add, Int.cast_ofNat_Int] at hst
      rw [uniF_succ, if_pos q, strap_units.L0_eq]
      simp [hi, hd, g1, hw, hst]
      done
    · have q' : ¬ ((Nat.gcd i v : Nat) : Int) = 1 := by omega
      have hst := ih (i + 1) oid acc m (by omega) ho (by omega)
      simp only [Int.natCast_add, Int.cast_ofNat_Int] at hst
      rw [uniF_succ, if_neg q, strap_units.L0_eq]
      simp [hi, hd, q', q, hw, hst]
      done
def unitsL (v : Nat) : List Int := uniF v v 0
theorem units_spec {v : Nat} (hv : v ≤ 31) (m : Mem) : denC prog ann 15 [.int .i64 v] m = some (intsV (unitsL v), m) := by
  have lp := uni_loop hv v 0 0 [] Mem.empty (by omega) (fun h => absurd rfl h) (Nat.le_refl _)
  rw [show outI 0 [] = .nils from rfl, List.nil_append] at lp
  simp only [Int.ofNat_zero, Int.cast_ofNat_Int] at lp
  rw [strap_units.call_eq _ _ rfl]
  simp [lp, unitsL]
  done
/-! ### slices.Equal -/
theorem eq_loop {wa wb : AV} {a b : List Int} (ha : IsInts wa a) (hb : IsInts wb b) (hl : a.length = b.length) (hl2 : a.length ≤ 1000) : ∀ (k i : Nat) (m : Mem), i + k = a.length →
    slices_Equal_int.L0 wa wb (.int .i64 a.length) (.int .i64 i) m [.code slices_Equal_int.r9, .code .ret] = some (.bool (decide (a.drop i = b.drop i)), Mem.empty) := by
  intro k
  induction k with
  | zero =>
    intro i m h1
    have e1 : a.drop i = [] := List.drop_of_length_le (by omega)
    have e2 : b.drop i = [] := List.drop_of_length_le (by omega)
    have e : i = a.length := by omega
    rw [e1, e2, e, slices_Equal_int.L0_eq]
    simp
    done
  | succ k ih =>
    intro i m h1
    have hi : i < a.length := by omega
    have hj : i < b.length := by omega
    have hw : IntKind.wrap .i64 ((i : Int) + 1) = (i : Int) + 1 := wrap_id (by omega) (by omega)
    have hst := fun m => ih (i + 1) m (by omega)
    simp only [Int.natCast_add, Int.cast_ofNat_Int] at hst
    have a1 := ha.idx hi .i64
    have a2 := ints_head hi
    have b1 := hb.idx hj .i64
    have b2 := ints_head hj
    rw [slices_Equal_int.L0_eq]
    by_cases q : nth a i = nth b i
    · have e : decide (a.drop i = b.drop i) = decide (a.drop (i + 1) = b.drop (i + 1)) := by
        rw [drop_nth hi, drop_nth hj, q]; simp
      rw [e]
      rw [q] at a2
      simp [hi, a1, a2, b1, b2, hw, hst]
      done
    · have e : decide (a.drop i = b.drop i) = false := by
        rw [drop_nth hi, drop_nth hj]; simp [q]
      rw [e]
      simp [hi, a1, a2, b1, b2, q]
      done
theorem equal_spec {wa wb : AV} {a b : List Int} (ha : IsInts wa a) (hb : IsInts wb b) (hl : a.length = b.length) (hl2 : a.length ≤ 1000) (m : Mem) : denC prog ann 16 [wa, wb] m = some (.bool (decide (a = b)), m) := by
  have lp := eq_loop ha hb hl hl2 a.length 0 Mem.empty (by omega)
  simp only [Int.ofNat_zero, Int.cast_ofNat_Int, List.drop_zero] at lp
  have hl3 := hb.len
  rw [← hl] at hl3
  rw [slices_Equal_int.call_eq _ _ _ (by simp [ha.closed, hb.closed])]
  simp [ha.len, hl3, lp]
  done
end Go.Proofs.YtofceaeboboflaaDoor

/-
  STRAPS (22): the specification's multiplied and moved set. Conditions: none.
-/
namespace Go.Proofs.YtofceaeboboflaaDoor
open Go.AM
open Go.Proofs.Tryd (prog)
set_option linter.all false
set_option maxRecDepth 100000
set_option maxHeartbeats 4000000

def bls (bs : List Bool) : List AV := bs.map fun b => AV.bool b
def bnth (bs : List Bool) (i : Nat) : Bool := bs.getD i false
def turF (bs : List Bool) (k p : Nat) : List Int := ((List.range' p k).filter (bnth bs)).map fun t : Nat => (t : Int)
theorem turF_succ (bs : List Bool) (k p : Nat) : turF bs (k + 1) p = if bnth bs p = true then (p : Int) :: turF bs k (p + 1) else turF bs k (p + 1) := by
  simp only [turF, List.range'_succ, List.filter_cons]
  by_cases h : bnth bs p = true <;> simp [h]
theorem tur_out {v : Nat} (hv : v ≤ 31) {bs : List Bool} (hb : bs.length = v) (i1 i2 : Nat) (hne : i1 ≠ i2) : ∀ (k p : Nat) (acc : List Int) (m : Mem), p + k = v → acc.length ≤ p → m.h i1 = some (.cells (bls bs)) → m.h i2 = some (.cells (ints acc)) →
    r04_Turned.L2 (.int .i64 v) (.sl i1 1 0 v v) (.sl i2 1 0 acc.length acc.length) (.int .i64 p) m [.code r04_Turned.r11, .code .ret] = some (.fsl false (acc ++ turF bs k p).length (ints (acc ++ turF bs k p)), Mem.empty) := by
  intro k
  induction k with
  | zero =>
    intro p acc m h1 ha m1 m2
    have e : p = v := by omega
    subst e
    rw [r04_Turned.L2_eq]
    simp [turF, m2]
    done
  | succ k ih =>
    intro p acc m h1 ha m1 m2
    have hp : p < v := by omega
    have hw : IntKind.wrap .i64 ((p : Int) + 1) = (p : Int) + 1 := wrap_id (by omega) (by omega)
    have hbl : (bls bs).length = v := by simp [bls, hb]
    have hbp : ∀ h, (bls bs)[p]'h = .bool (bnth bs p) := fun h => by
      have hp2 : p < bs.length := by omega
      simp [bls, bnth, hp2]
    rw [turF_succ]
    cases q : bnth bs p with
    | true =>
      rw [q] at hbp
      have hx : ints acc ++ [AV.int .i64 (p : Int)] = ints (acc ++ [(p : Int)]) := by simp [ints]
      have hst := ih (p + 1) (acc ++ [(p : Int)]) ⟨upd m.h i2 (some (.cells (ints (acc ++ [(p : Int)])))), m.nx⟩ (by omega) (by simp; omega) (by show upd m.h i2 _ i1 = _; rw [updNe hne]; exact m1) (by simp)
      simp only [Int.natCast_add, Int.cast_ofNat_Int, List.length_append, List.length_singleton, List.append_assoc, List.singleton_append] at hst
      rw [if_pos rfl, r04_Turned.L2_eq]
      simp [hp, m1, hbl, hbp, m2, hx, Mem.set, hw, show acc.length ≤ 4611686018427387903 by omega, show (acc.length + 1) * 8 ≤ 70368744177664 by omega, hst]
      done
    | false =>
      rw [q] at hbp
      have hst := ih (p + 1) acc m (by omega) (by omega) m1 m2
      simp only [Int.natCast_add, Int.cast_ofNat_Int, List.length_append] at hst
      rw [if_neg (by decide), r04_Turned.L2_eq]
      simp [hp, m1, hbl, hbp, hw, hst]
      done
def turS (l : List Int) (f : Int → Int) (k i : Nat) (bs : List Bool) : List Bool := (List.range' i k).foldl (fun bs i => bs.set (f (nth l i)).toNat true) bs
theorem turS_succ (l : List Int) (f : Int → Int) (k i : Nat) (bs : List Bool) : turS l f (k + 1) i bs = turS l f k (i + 1) (bs.set (f (nth l i)).toNat true) := by simp [turS, List.range'_succ]
theorem bls_set (bs : List Bool) (d : Nat) : (bls bs).set d (.bool true) = bls (bs.set d true) := by simp [bls, List.map_set]
theorem tur_in {w : AV} {v : Nat} {t s : Int} {l : List Int} (hv : IsInts w l) (hl : l.length ≤ 31) (hr : ∀ i, i < l.length → 0 ≤ nth l i ∧ nth l i < 31) (hv2 : 1 ≤ v ∧ v ≤ 31) (ht : 0 ≤ t ∧ t ≤ 31) (hs : 0 ≤ s ∧ s ≤ 31) (i1 i2 : Nat) (hne : i1 ≠ i2) : ∀ (k i : Nat) (bs : List Bool) (m : Mem), i + k = l.length → bs.length = v → m.h i1 = some (.cells (bls bs)) → m.h i2 = some (.cells (ints [])) →
    r04_Turned.L0 (.int .i64 v) w (.int .i64 t) (.int .i64 s) (.sl i1 1 0 v v) (.sl i2 1 0 0 0) (.int .i64 i) m [.code r04_Turned.r6, .code r04_Turned.k2, .code r04_Turned.r11, .code .ret] = some (.fsl false (turF (turS l (mvF v t s) k i bs) v 0).length (ints (turF (turS l (mvF v t s) k i bs) v 0)), Mem.empty) := by
  intro k
  induction k with
  | zero =>
    intro i bs m h1 hb m1 m2
    have e : i = l.length := by omega
    subst e
    have lp := tur_out hv2.2 hb i1 i2 hne v 0 [] m (by omega) (Nat.le_refl _) m1 m2
    simp only [Int.ofNat_zero, Int.cast_ofNat_Int, List.nil_append, List.length_nil] at lp
    rw [r04_Turned.L0_eq]
    simp [hv.len, lp, turS]
    done
  | succ k ih =>
    intro i bs m h1 hb m1 m2
    have hi : i < l.length := by omega
    have hw : IntKind.wrap .i64 ((i : Int) + 1) = (i : Int) + 1 := wrap_id (by omega) (by omega)
    have hx := hr i hi
    have p0 : 0 ≤ nth l i * t := Int.mul_nonneg (by omega) (by omega)
    have p1 : nth l i * t ≤ 31 * 31 := Int.mul_le_mul (by omega) (by omega) (by omega) (by omega)
    have hw1 : IntKind.wrap .i64 (nth l i * t) = nth l i * t := wrap_id (by omega) (by omega)
    have hw2 : IntKind.wrap .i64 (nth l i * t + s) = nth l i * t + s := wrap_id (by omega) (by omega)
    have hv0 : ¬ (v : Int) = 0 := by omega
    have hv0' : ¬ v = 0 := by omega
    have er : (nth l i * t + s).tmod v = (nth l i * t + s) % v := Int.tmod_eq_emod_of_nonneg (by omega)
    have e1 := Int.emod_nonneg (nth l i * t + s) hv0
    have e2 := Int.emod_lt_of_pos (nth l i * t + s) (show (0 : Int) < v by omega)
    obtain ⟨d, hd⟩ : ∃ d : Nat, (nth l i * t + s).tmod v = d := ⟨((nth l i * t + s) % v).toNat, by omega⟩
    have hdv : d < v := by omega
    have hmv : (mvF v t s (nth l i)).toNat = d := by unfold mvF; rw [hd]; rfl
    have hbl : (bls bs).length = v := by simp [bls, hb]
    have hst := ih (i + 1) (bs.set d true) ⟨upd m.h i1 (some (.cells (bls (bs.set d true)))), m.nx⟩ (by omega) (by simp [hb]) (by simp) (by show upd m.h i1 _ i2 = _; rw [updNe (fun h => hne h.symm)]; exact m2)
    simp only [Int.natCast_add, Int.cast_ofNat_Int] at hst
    rw [turS_succ, hmv, ← hst, r04_Turned.L0_eq]
    simp [hi, hv.len, hv.idx hi, ints_head hi, hw1, hw2, hv0, hv0', hd, hdv, m1, hbl, bls_set, Mem.set, hw]
    done
def turL (v : Nat) (t s : Int) (l : List Int) : List Int := turF (turS l (mvF v t s) l.length 0 (List.replicate v false)) v 0
theorem turned_spec {w : AV} {v : Nat} {t s : Int} {l : List Int} (hv : IsInts w l) (hl : l.length ≤ 31) (hr : ∀ i, i < l.length → 0 ≤ nth l i ∧ nth l i < 31) (hv2 : 1 ≤ v ∧ v ≤ 31) (ht : 0 ≤ t ∧ t ≤ 31) (hs : 0 ≤ s ∧ s ≤ 31) (m : Mem) :
    denC prog ann 13 [.int .i64 v, w, .int .i64 t, .int .i64 s] m = some (.fsl false (turL v t s l).length (ints (turL v t s l)), m) := by
  have hcl : closedL [.int .i64 v, w, .int .i64 t, .int .i64 s] = true := by simp [hv.closed]
  have lp := tur_in hv hl hr hv2 ht hs 0 1 (by decide) l.length 0 (List.replicate v false) ⟨upd (upd Mem.empty.h 0 (some (.cells (bls (List.replicate v false))))) 1 (some (.cells (ints []))), 2⟩ (by omega) (by simp) (by simp) (by simp)
  have e : bls (List.replicate v false) = List.replicate v (AV.bool false) := by simp [bls]
  rw [e] at lp
  simp only [Int.ofNat_zero, Int.cast_ofNat_Int] at lp
  simp at lp
  rw [r04_Turned.call_eq _ _ _ _ _ hcl]
  simp [show v ≤ 4611686018427387904 by omega, show v ≤ 70368744177664 by omega, lp, turL]
  done
end Go.Proofs.YtofceaeboboflaaDoor

/-
  STRAPS (23): moved by the code and by the specification: the same. Conditions: none.
-/
namespace Go.Proofs.YtofceaeboboflaaDoor
open Go.AM
set_option linter.all false
set_option maxRecDepth 10000
set_option maxHeartbeats 2000000

theorem mvF_rng {v : Nat} (hv : 0 < v) {t s x : Int} (h : 0 ≤ x * t + s) : 0 ≤ mvF v t s x ∧ mvF v t s x < v ∧ mvF v t s x = (x * t + s) % v := by
  have e := Int.tmod_eq_emod_of_nonneg (b := (v : Int)) h
  unfold mvF
  rw [e]
  exact ⟨Int.emod_nonneg _ (by omega), Int.emod_lt_of_pos _ (by omega), rfl⟩
theorem dvd_small {v t : Nat} (hg : Nat.gcd t v = 1) {d : Nat} (hd : d < v) (h : (v : Int) ∣ (d : Int) * t) : d = 0 := by
  have h2 : v ∣ d * t := by
    have := Int.natAbs_dvd_natAbs.2 h
    simpa [Int.natAbs_mul] using this
  have hc : Nat.Coprime v t := by rw [Nat.Coprime, Nat.gcd_comm]; exact hg
  exact Nat.eq_zero_of_dvd_of_lt (hc.dvd_of_dvd_mul_right h2) hd
theorem mvF_inj {v t : Nat} (hg : Nat.gcd t v = 1) {s x y : Int} (hs : 0 ≤ s) (hx : 0 ≤ x ∧ x < v) (hy : 0 ≤ y ∧ y < v) (h : mvF v t s x = mvF v t s y) : x = y := by
  have hv : 0 < v := by omega
  have px : 0 ≤ x * (t : Int) := Int.mul_nonneg hx.1 (by omega)
  have py : 0 ≤ y * (t : Int) := Int.mul_nonneg hy.1 (by omega)
  rw [(mvF_rng hv (by omega : 0 ≤ x * (t : Int) + s)).2.2, (mvF_rng hv (by omega : 0 ≤ y * (t : Int) + s)).2.2] at h
  have h2 : (v : Int) ∣ (x - y) * t := by
    have := Int.emod_emod_of_dvd
    have h3 := Int.emod_eq_emod_iff_emod_sub_eq_zero.1 h
    have h4 := Int.dvd_of_emod_eq_zero h3
    rwa [show x * (t : Int) + s - (y * t + s) = (x - y) * t by rw [Int.sub_mul]; omega] at h4
  rcases Int.le_total y x with q | q
  · obtain ⟨d, hd⟩ : ∃ d : Nat, x - y = d := ⟨(x - y).toNat, by omega⟩
    rw [hd] at h2
    have := dvd_small hg (by omega) h2
    omega
  · obtain ⟨d, hd⟩ : ∃ d : Nat, y - x = d := ⟨(y - x).toNat, by omega⟩
    have h3 : (v : Int) ∣ (d : Int) * t := by
      have := Int.dvd_neg.2 h2
      rwa [show -((x - y) * (t : Int)) = (d : Int) * t by rw [← Int.neg_mul, ← hd]; congr 1; omega] at this
    have := dvd_small hg (by omega) h3
    omega
theorem bnth_set {bs : List Bool} {d p : Nat} (hd : d < bs.length) : bnth (bs.set d true) p = (decide (p = d) || bnth bs p) := by
  simp only [bnth, List.getD, List.getElem?_set]
  by_cases e : d = p
  · subst e; simp [hd]
  · have e' : ¬ p = d := fun h => e h.symm
    simp [e, e']
theorem turS_nth {l : List Int} {f : Int → Int} {p : Nat} : ∀ {k i : Nat} {bs : List Bool}, (∀ j, i ≤ j → j < i + k → (f (nth l j)).toNat < bs.length) → (bnth (turS l f k i bs) p = true ↔ bnth bs p = true ∨ ∃ j, i ≤ j ∧ j < i + k ∧ (f (nth l j)).toNat = p)
  | 0, i, bs, _ => by
    constructor
    · exact .inl
    · rintro (h | ⟨j, h1, h2, _⟩)
      · exact h
      · omega
  | k + 1, i, bs, h => by
    rw [turS_succ, turS_nth (fun j h1 h2 => by rw [List.length_set]; exact h j (by omega) (by omega)), bnth_set (h i (by omega) (by omega)), Bool.or_eq_true, decide_eq_true_eq]
    constructor
    · rintro ((h | h) | ⟨j, h1, h2, h3⟩)
      · exact .inr ⟨i, by omega, by omega, h.symm⟩
      · exact .inl h
      · exact .inr ⟨j, by omega, by omega, h3⟩
    · rintro (h | ⟨j, h1, h2, h3⟩)
      · exact .inl (.inr h)
      · by_cases e : j = i
        · subst e; exact .inl (.inl h3.symm)
        · exact .inr ⟨j, by omega, by omega, h3⟩
theorem range_sorted : ∀ (k p : Nat), (List.range' p k).Pairwise (· < ·) := fun k p => List.pairwise_lt_range'
theorem turF_sorted (bs : List Bool) (k p : Nat) : (turF bs k p).Pairwise (· < ·) := by
  unfold turF
  exact ((range_sorted k p).filter _).map _ fun a b h => by show (a : Int) < b; omega
theorem mem_turL {v : Nat} {t s : Int} {l : List Int} (hv : 0 < v) (hp : ∀ i, i < l.length → 0 ≤ nth l i * t + s) (x : Int) : x ∈ turL v t s l ↔ x ∈ l.map (mvF v t s) := by
  have hr : ∀ i, i < l.length → 0 ≤ mvF v t s (nth l i) ∧ mvF v t s (nth l i) < v := fun i hi => ⟨(mvF_rng hv (hp i hi)).1, (mvF_rng hv (hp i hi)).2.1⟩
  have hk : ∀ p, bnth (turS l (mvF v t s) l.length 0 (List.replicate v false)) p = true ↔ ∃ j, j < l.length ∧ (mvF v t s (nth l j)).toNat = p := fun p => by
    rw [turS_nth (fun j _ h2 => by have := hr j (by omega); simp; omega)]
    have z : bnth (List.replicate v false) p = false := by simp only [bnth, List.getD, List.getElem?_replicate]; split <;> rfl
    rw [z]
    constructor
    · rintro (h | ⟨j, _, h2, h3⟩)
      · cases h
      · exact ⟨j, by omega, h3⟩
    · rintro ⟨j, h2, h3⟩
      exact .inr ⟨j, by omega, by omega, h3⟩
  rw [turL, turF, List.mem_map, List.mem_map]
  constructor
  · rintro ⟨p, h1, rfl⟩
    rw [List.mem_filter] at h1
    obtain ⟨j, hj, e⟩ := (hk p).1 h1.2
    have := hr j hj
    exact ⟨nth l j, nth_mem hj, by omega⟩
  · rintro ⟨y, h1, rfl⟩
    obtain ⟨j, hj, e⟩ := List.getElem_of_mem h1
    rw [nth_get hj] at e
    have := hr j hj
    rw [e] at this
    refine ⟨(mvF v t s y).toNat, ?_, by omega⟩
    rw [List.mem_filter]
    refine ⟨by simp [List.mem_range'_1]; omega, (hk _).2 ⟨j, hj, by rw [e]⟩⟩
theorem tur_mv {v : Nat} {t : Nat} {s : Int} {l : List Int} (s' : RingOk v l) (hg : Nat.gcd t v = 1) (hs : 0 ≤ s) : turL v t s l = mvL v t s l := by
  have hv := s'.v2
  have hp : ∀ i, i < l.length → 0 ≤ nth l i * (t : Int) + s := fun i hi => by
    have := Int.mul_nonneg (s'.rng i hi).1 (show (0 : Int) ≤ t by omega)
    omega
  have nd : (l.map (mvF v t s)).Nodup := by
    rw [List.nodup_iff_pairwise_ne, List.pairwise_map, List.pairwise_iff_getElem]
    intro i j hi hj hij h
    rw [nth_get hi, nth_get hj] at h
    have := mvF_inj hg hs (s'.rng i hi) (s'.rng j hj) h
    have := s'.lt hij hj
    omega
  have sl := turF_sorted (turS l (mvF v t s) l.length 0 (List.replicate v false)) v 0
  have pm : (turL v t s l).Perm (l.map (mvF v t s)) := (List.perm_ext_iff_of_nodup (lt_nodup sl) nd).2 fun x => mem_turL (by omega) hp x
  exact sorted_uniq (sl.imp fun h => by omega) (sortI_sorted _) (pm.trans (sortI_perm _).symm)
end Go.Proofs.YtofceaeboboflaaDoor

/-
  STRAPS (24): Multipliers, and the specification's. Conditions: none.
-/
namespace Go.Proofs.YtofceaeboboflaaDoor
open Go.AM
open Go.Proofs.Tryd (prog)
set_option linter.all false
set_option maxRecDepth 100000
set_option maxHeartbeats 4000000

def fndF (v : Nat) (t : Int) (l : List Int) (k b : Nat) : Bool := (List.range' b k).any fun b : Nat => decide (mvL v t (b : Int) l = l)
theorem fndF_succ (v : Nat) (t : Int) (l : List Int) (k b : Nat) : fndF v t l (k + 1) b = (decide (mvL v t (b : Int) l = l) || fndF v t l k (b + 1)) := by simp [fndF, List.range'_succ]
theorem mvL_len (v t s : Int) (l : List Int) : (mvL v t s l).length = l.length := by rw [mvL, sortI_len, List.length_map]
theorem RingOk.rng31 {v : Int} {l : List Int} (s : RingOk v l) : ∀ i, i < l.length → 0 ≤ nth l i ∧ nth l i < 31 := fun i hi => by
  have := s.rng i hi; have := s.v31; omega
theorem mul_in {w uw : AV} {v : Nat} {l : List Int} (hv : IsInts w l) (s : RingOk v l) {t : Int} (ht : 0 ≤ t ∧ t ≤ 31) (ulen i : Int) (hi : I64 (i + 1)) (oid : Nat) (acc : List Int) (hacc : acc.length ≤ 1000) (K : List Item) : ∀ (k b : Nat) (m : Mem), b + k = v → OutI m oid acc →
    ∃ oid' m', OutI m' oid' (if fndF v t l k b = true then acc ++ [t] else acc) ∧ strap_Multipliers.L2 (.int .i64 v) w (outI oid acc) (.int .i64 t) uw (.int .i64 ulen) (.int .i64 i) (.int .i64 v) (.int .i64 b) m (.inBlock 1 :: .code strap_Multipliers.r14 :: .inLoop strap_Multipliers.l0 :: .inBlock 0 :: K) =
      strap_Multipliers.L0 (.int .i64 v) w (outI oid' (if fndF v t l k b = true then acc ++ [t] else acc)) uw (.int .i64 ulen) (.int .i64 (i + 1)) m' K := by
  intro k
  have hfew := s.few
  have hpos := s.pos
  have hv2 := s.v2
  have hv31 := s.v31
  have hwi : IntKind.wrap .i64 (i + 1) = i + 1 := wrap_id hi.1 (by have := hi.2; omega)
  induction k with
  | zero =>
    intro b m h1 ho
    have e : b = v := by omega
    subst e
    refine ⟨oid, m, ho, ?_⟩
    rw [strap_Multipliers.L2_eq]
    simp [hwi, fndF]
    done
  | succ k ih =>
    intro b m h1 ho
    have hb : b < v := by omega
    have hw : IntKind.wrap .i64 ((b : Int) + 1) = (b : Int) + 1 := wrap_id (by omega) (by omega)
    have hm := fun m => moved_spec (v := (v : Int)) (t := t) (s := (b : Int)) hv hfew hpos s.rng31 (by omega) ht (by omega) m
    have hml := mvL_len v t b l
    have he := fun m => equal_spec (wa := .fsl false l.length (ints (mvL v t b l))) (wb := w) (a := mvL v t b l) (b := l) (.inr ⟨false, by rw [hml]⟩) hv hml (by omega) m
    rw [fndF_succ]
    by_cases q : mvL v t b l = l
    · rw [decide_eq_true q] at he
      obtain ⟨oid', m', g1, g2, _⟩ := outI_appT ho (by omega) t
      refine ⟨oid', m', by rw [decide_eq_true q, Bool.true_or, if_pos rfl]; exact g2, ?_⟩
      rw [decide_eq_true q, Bool.true_or, if_pos rfl, strap_Multipliers.L2_eq]
      simp [hb, hv.closed, hm, he, g1, hwi]
      done
    · rw [decide_eq_false q] at he
      obtain ⟨oid', m', g1, g2⟩ := ih (b + 1) m (by omega) ho
      simp only [Int.natCast_add, Int.cast_ofNat_Int] at g2
      refine ⟨oid', m', by rw [decide_eq_false q, Bool.false_or]; exact g1, ?_⟩
      rw [decide_eq_false q, Bool.false_or, ← g2, strap_Multipliers.L2_eq]
      simp [hb, hv.closed, hm, he, hw]
      done
theorem mul_out {w uw : AV} {v : Nat} {l T : List Int} (hv : IsInts w l) (hu : IsInts uw T) (hT : ∀ i, i < T.length → 0 ≤ nth T i ∧ nth T i ≤ 31) (hTl : T.length ≤ 31) (s : RingOk v l) : ∀ (k i oid : Nat) (acc : List Int) (m : Mem), i + k = T.length → acc.length ≤ i → OutI m oid acc →
    strap_Multipliers.L0 (.int .i64 v) w (outI oid acc) uw (.int .i64 T.length) (.int .i64 i) m [.code strap_Multipliers.r15, .code .ret] = some (.tup [intsV (acc ++ (T.drop i).filter fun t => fndF v t l v 0), .int .i64 0], Mem.empty) := by
  intro k
  induction k with
  | zero =>
    intro i oid acc m h1 ha ho
    have e : i = T.length := by omega
    subst e
    have hd := outI_deep ho
    rw [strap_Multipliers.L0_eq]
    simp [hd]
    done
  | succ k ih =>
    intro i oid acc m h1 ha ho
    have hi : i < T.length := by omega
    obtain ⟨oid', m', g1, g2⟩ := mul_in (uw := uw) hv s (hT i hi) T.length i ⟨by omega, by omega⟩ oid acc (by omega) [.code strap_Multipliers.r15, .code .ret] v 0 m (by omega) ho
    simp only [Int.ofNat_zero, Int.cast_ofNat_Int] at g2
    rw [drop_nth hi, List.filter_cons]
    cases q : fndF v (nth T i) l v 0 with
    | true =>
      rw [q, if_pos rfl] at g1 g2
      have hst := ih (i + 1) oid' (acc ++ [nth T i]) m' (by omega) (by simp; omega) g1
      simp only [Int.natCast_add, Int.cast_ofNat_Int] at hst
      rw [if_pos rfl, strap_Multipliers.L0_eq]
      simp [hi, hu.idx hi, ints_head hi, g2, hst]
      done
    | false =>
      rw [q, if_neg (by decide)] at g1 g2
      have hst := ih (i + 1) oid' acc m' (by omega) (by omega) g1
      simp only [Int.natCast_add, Int.cast_ofNat_Int] at hst
      rw [if_neg (by decide), strap_Multipliers.L0_eq]
      simp [hi, hu.idx hi, ints_head hi, g2, hst]
      done
def multsL (v : Nat) (l : List Int) : List Int := (unitsL v).filter fun t => fndF v t l v 0
theorem mem_uniF {v k i : Nat} {x : Int} (h : x ∈ uniF v k i) : ∃ t : Nat, x = t ∧ i ≤ t ∧ t < i + k ∧ Nat.gcd t v = 1 := by
  rw [uniF, List.mem_map] at h
  obtain ⟨t, h1, rfl⟩ := h
  rw [List.mem_filter] at h1
  have h2 := h1.1
  simp [List.mem_range'_1] at h2
  exact ⟨t, rfl, h2.1, h2.2, by simpa using h1.2⟩
theorem unitsL_few (v : Nat) : (unitsL v).length ≤ v := by
  have := List.length_filter_le (fun t => decide (Nat.gcd t v = 1)) (List.range' 0 v)
  simp only [unitsL, uniF, List.length_map]; simpa using this
theorem unitsL_rng {v : Nat} (hv : v ≤ 31) : ∀ i, i < (unitsL v).length → 0 ≤ nth (unitsL v) i ∧ nth (unitsL v) i ≤ 31 := fun i hi => by
  obtain ⟨t, e, _, h2, _⟩ := mem_uniF (v := v) (k := v) (i := 0) (x := nth (unitsL v) i) (nth_mem hi)
  rw [e]
  omega
theorem mults_spec {w : AV} {v : Nat} {l : List Int} (hv : IsInts w l) (s : RingOk v l) (hr : ∀ m, denC prog ann 14 [.int .i64 v, w] m = some (.int .i64 0, m)) (m : Mem) :
    denC prog ann 8 [.int .i64 v, w] m = some (.tup [intsV (multsL v l), .int .i64 0], m) := by
  have hcl : closedL [.int .i64 v, w] = true := by simp [hv.closed]
  have hv31 := s.v31
  have hu := intsV_is (unitsL v)
  have hf := unitsL_few v
  have lp := mul_out hv hu (unitsL_rng (by omega)) (by omega) s (unitsL v).length 0 0 [] Mem.empty (by omega) (Nat.le_refl _) (fun h => absurd rfl h)
  rw [show outI 0 [] = .nils from rfl, List.nil_append, List.drop_zero] at lp
  simp only [Int.ofNat_zero, Int.cast_ofNat_Int] at lp
  have hus := fun m => units_spec (v := v) (by omega) m
  rw [strap_Multipliers.call_eq _ _ _ hcl]
  simp [hv.closed, hr, hus, hu.len, lp, multsL]
  done
end Go.Proofs.YtofceaeboboflaaDoor

/-
  STRAPS (25): the specification's Multipliers. Conditions: none.
-/
namespace Go.Proofs.YtofceaeboboflaaDoor
open Go.AM
open Go.Proofs.Tryd (prog)
set_option linter.all false
set_option maxRecDepth 100000
set_option maxHeartbeats 4000000

def rmL (v : Nat) (l : List Int) (k t : Nat) : List Int := (uniF v k t).filter fun t => fndF v t l v 0
end Go.Proofs.YtofceaeboboflaaDoor

/-
  STRAPS (26): slices.Compare. Conditions: none.
-/
namespace Go.Proofs.YtofceaeboboflaaDoor
open Go.AM
open Go.Proofs.Tryd (prog)
set_option linter.all false
set_option maxRecDepth 100000
set_option maxHeartbeats 4000000

def cmpI (x y : Int) : Int := if x < y then -1 else if y < x then 1 else 0
def cmpV (a b : List Int) : Int := if lexLt a b = true then -1 else if a = b then 0 else 1
end Go.Proofs.YtofceaeboboflaaDoor

/-
  STRAPS (27): the least set that a set becomes. Conditions: none.
-/
namespace Go.Proofs.YtofceaeboboflaaDoor
open Go.AM
open Go.Proofs.Tryd (prog)
set_option linter.all false
set_option maxRecDepth 100000
set_option maxHeartbeats 4000000

def cStep (v : Nat) (t : Int) (l best : List Int) (s : Nat) : List Int := if lexLt (mvL v t (s : Int) l) best = true then mvL v t (s : Int) l else best
def cF (v : Nat) (t : Int) (l : List Int) (k s : Nat) (best : List Int) : List Int := (List.range' s k).foldl (cStep v t l) best
def cT (v : Nat) (l : List Int) (T : List Int) (best : List Int) : List Int := T.foldl (fun b t => cF v t l v 0 b) best
def canonL (v : Nat) (l : List Int) : List Int := cT v l (unitsL v) l
end Go.Proofs.YtofceaeboboflaaDoor

/-
  STRAPS (29): what a set becomes, multiplied and moved, is an orbit; its least set does not hang on which one of them it is asked for. Conditions: none.
-/
namespace Go.Proofs.YtofceaeboboflaaDoor
open Go.AM
set_option linter.all false
set_option maxRecDepth 100000
set_option maxHeartbeats 4000000

theorem RingOk.mem {v : Int} {l : List Int} (s : RingOk v l) {x : Int} (h : x ∈ l) : 0 ≤ x ∧ x < v := by
  obtain ⟨i, hi, rfl⟩ := List.getElem_of_mem h
  have := s.rng i hi
  simpa [nth, List.getD, hi] using this
theorem RingOk.pw {v : Int} {l : List Int} (s : RingOk v l) : l.Pairwise (· < ·) := by
  rw [List.pairwise_iff_getElem]
  intro i j hi hj hij
  have := s.lt hij hj
  simpa [nth, List.getD, hi, hj] using this
theorem ring_of {v : Int} {l : List Int} (h2 : 2 ≤ v) (h31 : v ≤ 31) (hp : 0 < l.length) (hf : l.length ≤ 31) (hm : ∀ x ∈ l, 0 ≤ x ∧ x < v) (hs : l.Pairwise (· < ·)) : RingOk v l := by
  refine ⟨h2, h31, hp, hf, fun i hi => ?_, fun i hi => ?_⟩
  · have : nth l i = l[i] := by simp [nth, List.getD, hi]
    rw [this]; exact hm _ (List.getElem_mem hi)
  · have h1 := List.pairwise_iff_getElem.1 hs i (i + 1) (by omega) hi (by omega)
    have : i < l.length := by omega
    simpa [nth, List.getD, hi, this] using h1
theorem sort_lt {l : List Int} (h : l.Nodup) : (sortI l).Pairwise (· < ·) := by
  have h1 := sortI_sorted l
  have h2 : (sortI l).Nodup := (sortI_perm l).nodup_iff.2 h
  have h3 := h1.and h2
  exact h3.imp fun ⟨a, b⟩ => by omega
theorem mem_mvL {v t s x : Int} {l : List Int} : x ∈ mvL v t s l ↔ ∃ y ∈ l, mvF v t s y = x := by
  rw [mvL, (sortI_perm _).mem_iff, List.mem_map]
theorem mv_pos {v : Nat} {t : Nat} {s x : Int} (hs : 0 ≤ s) (hx : 0 ≤ x) : 0 ≤ x * (t : Int) + s := by
  have := Int.mul_nonneg hx (by omega : 0 ≤ (t : Int)); omega
theorem ring_mv {v t : Nat} {s : Int} {l : List Int} (r : RingOk v l) (hg : Nat.gcd t v = 1) (hs : 0 ≤ s) : RingOk v (mvL v t s l) := by
  have hv := r.v2
  have h31 := r.v31
  have hp := r.pos
  have hf := r.few
  refine ring_of hv h31 (by rw [mvL_len]; omega) (by rw [mvL_len]; omega) (fun x hx => ?_) (sort_lt ?_)
  · obtain ⟨y, hy, rfl⟩ := mem_mvL.1 hx
    have := r.mem hy
    have := mvF_rng (v := v) (by omega) (mv_pos (v := v) (t := t) hs this.1)
    exact ⟨this.1, this.2.1⟩
  · rw [List.nodup_iff_pairwise_ne, List.pairwise_map]
    refine r.pw.imp_of_mem fun {a b} ha hb hab e => ?_
    have := mvF_inj hg hs (r.mem ha) (r.mem hb) e
    omega
theorem ring_eq {v : Int} {a b : List Int} (ra : RingOk v a) (rb : RingOk v b) (h : ∀ x, x ∈ a ↔ x ∈ b) : a = b := by
  have na : a.Nodup := ra.pw.imp fun h e => by omega
  have nb : b.Nodup := rb.pw.imp fun h e => by omega
  exact sorted_uniq (ra.pw.imp fun h => by omega) (rb.pw.imp fun h => by omega) ((List.perm_ext_iff_of_nodup na nb).2 h)
theorem mvF_comp {v t t' : Nat} {s s' x : Int} (hv : 0 < v) (hs : 0 ≤ s) (hs' : 0 ≤ s') (hx : 0 ≤ x) : mvF v t' s' (mvF v t s x) = mvF v ((t * t' % v : Nat) : Int) ((s * t' + s') % v) x := by
  have p1 := mvF_rng (v := v) hv (mv_pos (v := v) (t := t) hs hx)
  have p2 := mvF_rng (v := v) hv (mv_pos (v := v) (t := t') hs' p1.1)
  have p4 : 0 ≤ (s * (t' : Int) + s') % v := Int.emod_nonneg _ (by omega)
  have p3 := mvF_rng (v := v) hv (mv_pos (v := v) (t := t * t' % v) p4 hx)
  rw [p2.2.2, p3.2.2, p1.2.2]
  rw [Int.natCast_emod, Int.natCast_mul]
  rw [Int.add_emod (((x * t + s) % v) * (t' : Int)) s', Int.mul_emod ((x * (t : Int) + s) % v) t', Int.emod_emod, ← Int.mul_emod, ← Int.add_emod]
  rw [Int.add_emod (x * ((t : Int) * t' % v)) ((s * (t' : Int) + s') % v), Int.emod_emod, Int.mul_emod x ((t : Int) * t' % v), Int.emod_emod, ← Int.mul_emod, ← Int.add_emod]
  congr 1
  rw [Int.add_mul, Int.mul_assoc, Int.add_assoc]
theorem gcd_mulmod {v t t' : Nat} (h : Nat.gcd t v = 1) (h' : Nat.gcd t' v = 1) : Nat.gcd (t * t' % v) v = 1 := by
  rw [← Nat.gcd_rec, Nat.gcd_comm]
  exact Nat.Coprime.mul_left h h'
theorem mvL_comp {v t t' : Nat} {s s' : Int} {l : List Int} (r : RingOk v l) (hg : Nat.gcd t v = 1) (hg' : Nat.gcd t' v = 1) (hs : 0 ≤ s) (hs' : 0 ≤ s') : mvL v t' s' (mvL v t s l) = mvL v ((t * t' % v : Nat) : Int) ((s * t' + s') % v) l := by
  have hv : 0 < v := by have := r.v2; omega
  have p4 : 0 ≤ (s * (t' : Int) + s') % v := Int.emod_nonneg _ (by omega)
  refine ring_eq (v := v) (ring_mv (ring_mv r hg hs) hg' hs') (ring_mv r (gcd_mulmod hg hg') p4) fun x => ?_
  rw [mem_mvL, mem_mvL]
  constructor
  · rintro ⟨y, hy, rfl⟩
    obtain ⟨z, hz, rfl⟩ := mem_mvL.1 hy
    exact ⟨z, hz, (mvF_comp hv hs hs' (r.mem hz).1).symm⟩
  · rintro ⟨z, hz, rfl⟩
    exact ⟨_, mem_mvL.2 ⟨z, hz, rfl⟩, mvF_comp hv hs hs' (r.mem hz).1⟩
theorem mvL_one {v : Nat} {l : List Int} (r : RingOk v l) : mvL v 1 0 l = l := by
  have hv : 0 < v := by have := r.v2; omega
  have key : ∀ y ∈ l, mvF v ((1 : Nat) : Int) 0 y = y := fun y hy => by
    have m := r.mem hy
    rw [(mvF_rng (v := v) hv (mv_pos (v := v) (t := 1) (Int.le_refl 0) m.1)).2.2]
    rw [show y * ((1 : Nat) : Int) + 0 = y by omega]
    exact Int.emod_eq_of_lt m.1 m.2
  refine ring_eq (v := v) (ring_mv (t := 1) r (by simp) (Int.le_refl 0)) r fun x => ?_
  rw [mem_mvL]
  constructor
  · rintro ⟨y, hy, rfl⟩
    have e : mvF v 1 0 y = y := key y hy
    rw [e]; exact hy
  · intro h
    exact ⟨x, h, key x h⟩
def invB (v t : Nat) : Bool := !(decide (Nat.gcd t v = 1)) || (List.range v).any fun u => decide (Nat.gcd u v = 1) && decide (t * u % v = 1)
theorem inv_all : ((List.range 32).all fun v => decide (v < 2) || (List.range v).all fun t => invB v t) = true := by decide +kernel
theorem inv_ex {v t : Nat} (h2 : 2 ≤ v) (h31 : v ≤ 31) (ht : t < v) (hg : Nat.gcd t v = 1) : ∃ u, u < v ∧ Nat.gcd u v = 1 ∧ t * u % v = 1 := by
  have h := List.all_eq_true.1 inv_all v (List.mem_range.2 (by omega))
  rw [Bool.or_eq_true] at h
  rcases h with h' | h'
  · simp at h'; omega
  · have h3 := List.all_eq_true.1 h' t (List.mem_range.2 ht)
    unfold invB at h3
    simp only [hg, decide_true, Bool.not_true, Bool.false_or, List.any_eq_true, List.mem_range, Bool.and_eq_true, decide_eq_true_eq] at h3
    exact h3
/-- What it may become. -/
def Orb (v : Nat) (l o : List Int) : Prop := ∃ t : Nat, ∃ s : Int, t < v ∧ Nat.gcd t v = 1 ∧ 0 ≤ s ∧ s < v ∧ o = mvL v t s l
theorem Orb.ring {v : Nat} {l o : List Int} (r : RingOk v l) (h : Orb v l o) : RingOk v o := by
  obtain ⟨t, s, h1, h2, h3, h4, rfl⟩ := h
  exact ring_mv r h2 h3
theorem Orb.trans {v : Nat} {l o p : List Int} (r : RingOk v l) (h : Orb v l o) (k : Orb v o p) : Orb v l p := by
  obtain ⟨t, s, h1, h2, h3, h4, rfl⟩ := h
  obtain ⟨t', s', k1, k2, k3, k4, rfl⟩ := k
  have hv : 0 < v := by omega
  exact ⟨t * t' % v, (s * t' + s') % v, Nat.mod_lt _ hv, gcd_mulmod h2 k2, Int.emod_nonneg _ (by omega), Int.emod_lt_of_pos _ (by omega), mvL_comp r h2 k2 h3 k3⟩
theorem Orb.symm {v : Nat} {l o : List Int} (r : RingOk v l) (h : Orb v l o) : Orb v o l := by
  obtain ⟨t, s, h1, h2, h3, h4, rfl⟩ := h
  have hv2 := r.v2
  have hv31 := r.v31
  obtain ⟨u, u1, u2, u3⟩ := inv_ex (by omega) (by omega) h1 h2
  have p : 0 ≤ (-(s * u)) % (v : Int) := Int.emod_nonneg _ (by omega)
  refine ⟨u, (-(s * u)) % v, u1, u2, p, Int.emod_lt_of_pos _ (by omega), ?_⟩
  rw [mvL_comp r h2 u2 h3 p, u3]
  have e : (s * (u : Int) + -(s * u) % v) % v = 0 := by
    rw [Int.add_emod, Int.emod_emod, ← Int.add_emod]
    rw [show s * (u : Int) + -(s * u) = 0 by omega]; rfl
  rw [e]
  exact (mvL_one r).symm
theorem mem_units {v t : Nat} : (t : Int) ∈ unitsL v ↔ t < v ∧ Nat.gcd t v = 1 := by
  constructor
  · intro h
    obtain ⟨u, e, _, h2, h3⟩ := mem_uniF h
    have : t = u := by omega
    subst this
    exact ⟨by omega, h3⟩
  · rintro ⟨h1, h2⟩
    rw [unitsL, uniF, List.mem_map]
    refine ⟨t, ?_, rfl⟩
    rw [List.mem_filter]
    exact ⟨by simp [List.mem_range'_1]; omega, by simpa using h2⟩
/-! ### Multipliers -/
theorem fnd_iff {v : Nat} {t : Int} {l : List Int} : fndF v t l v 0 = true ↔ ∃ s : Int, 0 ≤ s ∧ s < v ∧ mvL v t s l = l := by
  unfold fndF
  rw [List.any_eq_true]
  constructor
  · rintro ⟨b, hb, h⟩
    simp [List.mem_range'_1] at hb
    exact ⟨b, by omega, by omega, by simpa using h⟩
  · rintro ⟨s, h1, h2, h3⟩
    refine ⟨s.toNat, by simp [List.mem_range'_1]; omega, ?_⟩
    rw [show ((s.toNat : Nat) : Int) = s by omega]
    simpa using h3
/-- Products of multipliers are multipliers. -/
theorem mults_mul {v t t' : Nat} {l : List Int} (r : RingOk v l) (h : (t : Int) ∈ multsL v l) (h' : (t' : Int) ∈ multsL v l) : ((t * t' % v : Nat) : Int) ∈ multsL v l := by
  unfold multsL at h h' ⊢
  rw [List.mem_filter] at h h' ⊢
  obtain ⟨h1, h2⟩ := h
  obtain ⟨h1', h2'⟩ := h'
  rw [mem_units] at h1 h1' ⊢
  rw [fnd_iff] at h2 h2' ⊢
  obtain ⟨s, a1, a2, a3⟩ := h2
  obtain ⟨s', b1, b2, b3⟩ := h2'
  have hv : 0 < v := by omega
  refine ⟨⟨Nat.mod_lt _ hv, gcd_mulmod h1.2 h1'.2⟩, (s * t' + s') % v, Int.emod_nonneg _ (by omega), Int.emod_lt_of_pos _ (by omega), ?_⟩
  rw [← mvL_comp r h1.2 h1'.2 a1 b1, a3, b3]
end Go.Proofs.YtofceaeboboflaaDoor

/-
  STRAPS (30): a set that is read off the bits of a number. Conditions: none.
-/
namespace Go.Proofs.YtofceaeboboflaaDoor
open Go.AM
open Go.Proofs.Tryd (prog)
set_option linter.all false
set_option maxRecDepth 100000
set_option maxHeartbeats 4000000

theorem u50 : prog.underlying 22 = some (.int .u32) := by kernel_rfl
theorem datV50 {d : Nat} {a : AV} (h : DatV prog (d + 1) 22 a) : ∃ n, a = .int .u32 n := by
  simp only [DatV, u50, Dat] at h
  obtain ⟨n, e, _⟩ := h
  exact ⟨n, by simpa using e⟩
theorem bit_ex (x : Int) (d : Nat) : ∃ (b : Bool), ∃ (y z : AV), binA prog .shr 22 (.int .u32 x) (.int .i64 (d : Int)) = some y ∧ binA prog .and 22 y (.int .u32 1) = some z ∧ binA prog .eql 22 z (.int .u32 1) = some (.bool b) := by
  have h1 : binA prog .shr 22 (.int .u32 x) (.int .i64 (d : Int)) = some (.int .u32 (x.fdiv (2 ^ min (d : Int).toNat (IntKind.bits .u32)))) := by
    rw [binA_shr, show decide ((d : Int) < 0) = false from decide_eq_false (by omega)]; rfl
  generalize x.fdiv (2 ^ min (d : Int).toNat (IntKind.bits .u32)) = y at h1
  have h2 := binA_and prog 50 .u32 y 1
  generalize IntKind.wrap .u32 (((BitVec.ofInt (IntKind.bits .u32) y &&& BitVec.ofInt (IntKind.bits .u32) 1).toNat : Nat) : Int) = z at h2
  exact ⟨_, _, _, h1, h2, binA_eql prog 50 .u32 z 1⟩
/-- Is the bit set? -/
noncomputable def sb (x : Int) (d : Nat) : Bool := (bit_ex x d).choose
theorem sb_spec (x : Int) (d : Nat) : ∃ (y z : AV), binA prog .shr 22 (.int .u32 x) (.int .i64 (d : Int)) = some y ∧ binA prog .and 22 y (.int .u32 1) = some z ∧ binA prog .eql 22 z (.int .u32 1) = some (.bool (sb x d)) := (bit_ex x d).choose_spec
noncomputable def setF (x : Int) (k i : Nat) : List Int := ((List.range' i k).filter fun t => sb x t).map fun t : Nat => (t : Int)
theorem setF_succ (x : Int) (k i : Nat) : setF x (k + 1) i = if sb x i = true then (i : Int) :: setF x k (i + 1) else setF x k (i + 1) := by
  simp only [setF, List.range'_succ, List.filter_cons]
  split <;> simp_all
theorem mem_setF {x : Int} {k i : Nat} {y : Int} (h : y ∈ setF x k i) : 0 ≤ y ∧ y < i + k := by
  rw [setF, List.mem_map] at h
  obtain ⟨t, h1, rfl⟩ := h
  rw [List.mem_filter] at h1
  have h2 := h1.1
  simp [List.mem_range'_1] at h2
  omega
theorem setF_sorted (x : Int) (k i : Nat) : (setF x k i).Pairwise (· < ·) := by
  rw [setF, List.pairwise_map]
  exact ((range_sorted k i).filter _).imp fun h => by omega
theorem setF_few (x : Int) (k i : Nat) : (setF x k i).length ≤ k := by
  have := List.length_filter_le (fun t => sb x t) (List.range' i k)
  simp only [setF, List.length_map]; simpa using this
theorem ring_set1 {v : Nat} (h2 : 2 ≤ v) (h31 : v ≤ 31) {x : Int} (h : setF x v 0 ≠ []) : RingOk v (setF x v 0) := by
  have hf := setF_few x v 0
  have hp : 0 < (setF x v 0).length := List.length_pos_iff.2 h
  exact ring_of (by omega) (by omega) hp (by omega) (fun y hy => by have := mem_setF hy; omega) (setF_sorted x v 0)
theorem ring_err {w : AV} {l : List Int} (hv : IsInts w l) {v : Int} (s : RingOk v l) : ∀ m, denC prog ann 14 [.int .i64 v, w] m = some (.int .i64 0, m) := by
  obtain ⟨e, he, hr⟩ := ring_spec hv (by have := s.few; omega) v
  have := he.uniq (.ok s)
  subst this
  exact hr
theorem gcd_last : ((List.range 32).all fun v => decide (v < 2) || decide (Nat.gcd (v - 1) v = 1)) = true := by decide +kernel
theorem gcd_pred {v : Nat} (h2 : 2 ≤ v) (h31 : v ≤ 31) : Nat.gcd (v - 1) v = 1 := by
  have h := List.all_eq_true.1 gcd_last v (List.mem_range.2 (by omega))
  rw [Bool.or_eq_true] at h
  rcases h with h | h
  · simp at h; omega
  · simpa using h
end Go.Proofs.YtofceaeboboflaaDoor

/-
  STRAPS (13): the code that counts the differences. Conditions: none.
-/
namespace Go.Proofs.YtofceaeboboflaaDoor
open Go.AM
open Go.Proofs.Tryd (prog)
set_option linter.all false
set_option maxRecDepth 100000
set_option maxHeartbeats 4000000

end Go.Proofs.YtofceaeboboflaaDoor

/-
  STRAPS (10): Single, and the specification's. Conditions: none.
-/
namespace Go.Proofs.YtofceaeboboflaaDoor
open Go.AM
open Go.Proofs.Tryd (prog)
set_option linter.all false
set_option maxRecDepth 100000
set_option maxHeartbeats 4000000

def endsAt (L : Int) (l : List Int) : Bool := decide (top l = L)
/-- Length after length. -/
def sngS (k : Nat) : Nat → Int → Option (List Int)
  | 0, _ => none
  | n + 1, L => match findF gSingle (endsAt L) L (k - 1) [0] with
    | some r => some r
    | none => sngS k n (L + 1)
/-! ### The specification's -/
def rsF (L : Int) : Nat → List Int → Option (List Int)
  | 0, l => if (tw0 l l.length 0 []).isEmpty = true then (if top l = L then some l else none) else none
  | f + 1, l => if (tw0 l l.length 0 []).isEmpty = true then firstF (rsF L f) l (L - top l).toNat (top l + 1) else none
def rsS (k : Nat) : Nat → Int → Option (List Int)
  | 0, _ => none
  | n + 1, L => match rsF L (k - 1) [0] with
    | some r => some r
    | none => rsS k n (L + 1)
end Go.Proofs.YtofceaeboboflaaDoor

/-
  STRAPS (11): Full, and the specification's. Conditions: none.
-/
namespace Go.Proofs.YtofceaeboboflaaDoor
open Go.AM
open Go.Proofs.Tryd (prog)
set_option linter.all false
set_option maxRecDepth 100000
set_option maxHeartbeats 4000000

def always (_ : List Int) : Bool := true
def fullAt (L : Int) (l : List Int) : Bool := decide (top l = L) && !decide ((0 : Int) ∈ (counts l).drop 1)
def flS (L : Int) : Nat → Nat → Option (List Int)
  | 0, _ => none
  | n + 1, size => if ((size : Int) * ((size : Int) - 1)).tdiv 2 < L then flS L n (size + 1) else match findF always (fullAt L) L (size - 1) [0] with
    | some r => some r
    | none => flS L n (size + 1)
/-! ### The specification's -/
def rfF (L : Int) : Nat → List Int → Option (List Int)
  | 0, l => if top l = L then (if (misses l).length = 0 then some l else none) else none
  | f + 1, l => firstF (rfF L f) l (L - top l).toNat (top l + 1)
def rfS (L : Int) : Nat → Nat → Option (List Int)
  | 0, _ => none
  | n + 1, k => match rfF L (k - 1) [0] with
    | some r => some r
    | none => rfS L n (k + 1)
end Go.Proofs.YtofceaeboboflaaDoor

/-
  STRAPS (14): Even, and the specification's. Conditions: none.
-/
namespace Go.Proofs.YtofceaeboboflaaDoor
open Go.AM
open Go.Proofs.Tryd (prog)
set_option linter.all false
set_option maxRecDepth 100000
set_option maxHeartbeats 4000000

def eqA (c : List Int) (k d : Nat) : Bool := (List.range' d k).all fun g => decide (nth c g = nth c 1)
/-- What the specification's Even hands back. -/
def evenV (c : List Int) (n : Nat) : AV := if eqA c n 1 = true then .tup [.int .i64 (nth c 1), .bool true] else .tup [.int .i64 0, .bool false]
/-! ### The code's -/
def minL (c : List Int) : Int := (c.drop 1).foldl min (nth c 0)
end Go.Proofs.YtofceaeboboflaaDoor

/-
  BODIES OF FUNCTIONS OF THE PROGRAM AS SMALL OPERATIONS (written by gen.py; checked by the kernel against the program). Conditions: none.
-/
namespace Go.Proofs.YtofceaeboboflaaDoor
open Go.AM
open Go.Proofs.Tryd (prog)
set_option maxRecDepth 100000
set_option linter.all false

namespace l04_made
/-- pommel/pommellaw04.made -/
noncomputable def b : Code := (Tryd.f7.body).getD .skip
theorem hf : prog.funcs[7]? = some Tryd.f7 := by kernel_rfl
noncomputable def r0 : Code := findReg b 0
noncomputable def r1 : Code := findReg b 1
noncomputable def r2 : Code := findReg b 2
noncomputable def k0 : Code := findBlk b 0
noncomputable def l0 : Code := loopOf k0
noncomputable def L0 (x1 x4 x5 : AV) (m : Mem) (K : List Item) : Option Res := den prog ann 7 (.code l0 :: .inLoop l0 :: .inBlock 0 :: K) ⟨[(1, x1), (4, x4), (5, x5)], 48, m⟩
noncomputable def r3 : Code := findReg b 3
noncomputable def i0 : Code := findCond b 0
noncomputable def i0t : Code := thenOf i0
noncomputable def i0e : Code := elseOf i0
noncomputable def k1 : Code := findBlk b 1
noncomputable def r4 : Code := findReg b 4
noncomputable def r5 : Code := findReg b 5
theorem b_eq (K : List Item) (s : St) : den prog ann 7 (.code b :: K) s = den prog ann 7 (.code r0 :: .code r1 :: .code r2 :: .code k0 :: .code r5 :: .code .ret :: K) s := den_flat hf (l := [r0, r1, r2, k0, r5, .ret]) (by kernel_rfl) K s
theorem r0_eq (K : List Item) (s : St) : den prog ann 7 (.code r0 :: K) s = mreg prog ann 7 none [] none [] [
    ⟨some 1, none, .v fun s => frozenPtr (s.get 0)⟩,
    ⟨some 2, none, .v fun s => some (.int .i64 0)⟩,
    ⟨some 3, none, .v fun s => some (.nils)⟩] K s := (den_reg hf _ K s).trans (by kernel_rfl)
theorem r1_draw : drawOk (fun g => (ann g).pure) (modeOf (ann 7) (idOf r1)) (frzOf (ann 7) (idOf r1)) (opsOf r1) = true := drawOk_of (an := [0, 0, 2, 6, 0, 16, 62, 127, 255, 0, 1023]) (by kernel_rfl) (by kernel_rfl)
theorem r1_eq (K : List Item) (s : St) : den prog ann 7 (.code r1 :: K) s = mreg prog ann 7 none [] (some 11) [4] [
    ⟨some 6, none, .v fun s => loadA false 1 s.m (globV 0)⟩,
    ⟨some 7, none, .v fun s => idxArr 3 1 (s.get 1) (.int .i64 0)⟩,
    ⟨some 8, none, .v fun s => loadF false 1 (s.get 7)⟩,
    ⟨some 9, none, .v fun s => convInt .i64 (s.get 8)⟩,
    ⟨some 10, none, .v fun s => loadA false 1 s.m (globV 0)⟩,
    ⟨some 11, none, .v fun s => lenSl (s.get 10)⟩,
    ⟨some 12, none, .v fun s => binA prog .rem 3 (s.get 9) (s.get 11)⟩,
    ⟨some 13, none, .v fun s => idxSl 2 (s.get 6) (s.get 12)⟩,
    ⟨some 14, none, .v fun s => loadA true 2 s.m (s.get 13)⟩,
    ⟨some 4, none, .w false (some 9) fun s => newPtr s.m [.int .i64 0, .nils]⟩,
    ⟨none, none, .w false (some 10) fun s => stA true 2 s.m (s.get 4) (s.get 14)⟩] K s := (den_regD hf r1_draw K s).trans (by kernel_rfl)
theorem r2_eq (K : List Item) (s : St) : den prog ann 7 (.code r2 :: K) s = mreg prog ann 7 none [] none [] [
    ⟨some 15, none, .v fun s => idxArr 3 1 (s.get 1) (.int .i64 1)⟩,
    ⟨some 16, none, .v fun s => loadF false 1 (s.get 15)⟩,
    ⟨some 17, none, .v fun s => convInt .i64 (s.get 16)⟩,
    ⟨some 18, none, .v fun s => fieldA 0 (s.get 4)⟩,
    ⟨some 19, none, .v fun s => loadF false 1 (s.get 18)⟩,
    ⟨some 20, none, .v fun s => binA prog .sub 3 (s.get 19) (.int .i64 1)⟩,
    ⟨some 21, none, .v fun s => binA prog .rem 3 (s.get 17) (s.get 20)⟩,
    ⟨some 22, none, .v fun s => binA prog .add 3 (s.get 21) (.int .i64 1)⟩,
    ⟨some 5, none, .v fun s => some (s.get 22)⟩] K s := (den_reg hf _ K s).trans (by kernel_rfl)
theorem k0_eq (K : List Item) (t : List (Nat × AV)) (m : Mem) : den prog ann 7 (.code k0 :: K) ⟨t, 48, m⟩ = L0 (get t 1) (get t 4) (get t 5) m K := den_loop_enter hf (b := l0) (id := 3) (l := [1, 4, 5]) (by kernel_rfl) (by kernel_rfl) (by kernel_rfl) K _
theorem l0_eq (K : List Item) (t : List (Nat × AV)) (m : Mem) : den prog ann 7 (.inLoop l0 :: .inBlock 0 :: K) ⟨t, 48, m⟩ = L0 (get t 1) (get t 4) (get t 5) m K := den_loop_again hf (id := 3) (l := [1, 4, 5]) (by kernel_rfl) (by kernel_rfl) (.inBlock 0 :: K) _
theorem L0_eq (x1 x4 x5 : AV) (m : Mem) (K : List Item) : L0 x1 x4 x5 m K = den prog ann 7 (.code r3 :: .code i0 :: .code k1 :: .inLoop l0 :: .inBlock 0 :: K) ⟨[(1, x1), (4, x4), (5, x5)], 48, m⟩ := den_flat hf (l := [r3, i0, k1]) (by kernel_rfl) _ _
theorem r3_eq (K : List Item) (s : St) : den prog ann 7 (.code r3 :: K) s = mreg prog ann 7 (some [1, 4, 5]) [] none [] [
    ⟨some 23, none, .v fun s => some (s.get 5)⟩,
    ⟨some 24, none, .v fun s => fieldA 0 (s.get 4)⟩,
    ⟨some 25, none, .v fun s => loadF false 1 (s.get 24)⟩,
    ⟨some 26, none, .c 0 (fun s => (.fn 12 [] [])) fun s => [(s.get 23), (s.get 25)]⟩,
    ⟨some 27, none, .v fun s => binA prog .neq 3 (s.get 26) (.int .i64 1)⟩] K s := (den_reg hf _ K s).trans (by kernel_rfl)
theorem i0_eq (K : List Item) (s : St) : den prog ann 7 (.code i0 :: K) s = ifV prog ann 7 27 i0t i0e K s (s.get 27) := den_if hf (by kernel_rfl) K s
theorem i0t_eq (K : List Item) (s : St) : den prog ann 7 (.code i0t :: K) s = den prog ann 7 (K) s := den_flat hf (l := []) (by kernel_rfl) K s
theorem i0e_eq (K : List Item) (s : St) : den prog ann 7 (.code i0e :: K) s = den prog ann 7 (.code (.exit 0) :: K) s := den_flat hf (l := [(.exit 0)]) (by kernel_rfl) K s
theorem k1_eq (K : List Item) (s : St) : den prog ann 7 (.code k1 :: K) s = den prog ann 7 (.code r4 :: .inBlock 1 :: K) s := den_blk hf (b := blkOf k1) (l := [r4]) (by kernel_rfl) (by kernel_rfl) K s
theorem r4_eq (K : List Item) (s : St) : den prog ann 7 (.code r4 :: K) s = mreg prog ann 7 none [] none [] [
    ⟨some 28, none, .v fun s => some (s.get 5)⟩,
    ⟨some 29, none, .v fun s => fieldA 0 (s.get 4)⟩,
    ⟨some 30, none, .v fun s => loadF false 1 (s.get 29)⟩,
    ⟨some 31, none, .v fun s => binA prog .sub 3 (s.get 30) (.int .i64 1)⟩,
    ⟨some 32, none, .v fun s => binA prog .rem 3 (s.get 28) (s.get 31)⟩,
    ⟨some 33, none, .v fun s => binA prog .add 3 (s.get 32) (.int .i64 1)⟩,
    ⟨some 5, none, .v fun s => some (s.get 33)⟩] K s := (den_reg hf _ K s).trans (by kernel_rfl)
theorem r5_draw : drawOk (fun g => (ann g).pure) (modeOf (ann 7) (idOf r5)) (frzOf (ann 7) (idOf r5)) (opsOf r5) = true := drawOk_of (an := [0, 1, 0, 4, 0, 16, 0, 0, 128, 384, 0, 1024, 3968, 8188, 16383, 32767]) (by kernel_rfl) (by kernel_rfl)
theorem r5_eq (K : List Item) (s : St) : den prog ann 7 (.code r5 :: K) s = mreg prog ann 7 (some [1, 4, 5]) [] (some 16) [] [
    ⟨some 34, none, .v fun s => fieldA 0 (s.get 4)⟩,
    ⟨some 35, none, .v fun s => loadF false 1 (s.get 34)⟩,
    ⟨some 36, none, .v fun s => fieldA 0 (s.get 4)⟩,
    ⟨some 37, none, .v fun s => loadF false 1 (s.get 36)⟩,
    ⟨some 38, none, .v fun s => fieldA 1 (s.get 4)⟩,
    ⟨some 39, none, .v fun s => loadF false 1 (s.get 38)⟩,
    ⟨some 40, none, .v fun s => some (s.get 5)⟩,
    ⟨some 41, none, .v fun s => idxArr 3 1 (s.get 1) (.int .i64 2)⟩,
    ⟨some 42, none, .v fun s => loadF false 1 (s.get 41)⟩,
    ⟨some 43, none, .v fun s => convInt .i64 (s.get 42)⟩,
    ⟨some 44, none, .v fun s => fieldA 0 (s.get 4)⟩,
    ⟨some 45, none, .v fun s => loadF false 1 (s.get 44)⟩,
    ⟨some 46, none, .v fun s => binA prog .rem 3 (s.get 43) (s.get 45)⟩,
    ⟨some 47, none, .c 0 (fun s => (.fn 13 [] [])) fun s => [(s.get 37), (s.get 39), (s.get 40), (s.get 46)]⟩,
    ⟨some 2, none, .v fun s => some (s.get 35)⟩,
    ⟨some 3, none, .v fun s => some (s.get 47)⟩] K s := (den_regD hf r5_draw K s).trans (by kernel_rfl)
theorem ret_eq (K : List Item) (s : St) : den prog ann 7 (.code .ret :: K) s = finM true [fun s => some (s.get 2), fun s => some (s.get 3)] s := (den_ret hf K s).trans (by kernel_rfl)
theorem nil_eq (s : St) : den prog ann 7 [] s = finM true [fun s => some (s.get 2), fun s => some (s.get 3)] s := (den_nil hf s).trans (by kernel_rfl)
theorem inBlock_eq (id : Nat) (K : List Item) (s : St) : den prog ann 7 (.inBlock id :: K) s = den prog ann 7 K s := den_inBlock hf id K s
theorem exit_eq (id : Nat) (K : List Item) (s : St) : den prog ann 7 (.code (.exit id) :: K) s = exitV prog ann 7 (exitTo id K) s := den_exitV hf id K s
theorem call_eq (v0 : AV) (m : Mem) (h : closedL [v0] = true) : denC prog ann 7 [v0] m = (den prog ann 7 [.code b] ⟨[(0, v0)], 48, Mem.empty⟩).bind fun r => some (r.1, m) := (denC_pure hf (b := b) (by kernel_rfl) (by kernel_rfl) (by kernel_rfl) h m).trans (by kernel_rfl)
theorem pure_eq : (ann 7).pure = true := by kernel_rfl
attribute [simp] b_eq r0_eq r1_eq r2_eq k0_eq l0_eq r3_eq i0_eq i0t_eq i0e_eq k1_eq r4_eq r5_eq ret_eq nil_eq inBlock_eq exit_eq pure_eq
end l04_made

namespace l04_StrapGroup
/-- pommel/pommellaw04.StrapGroup -/
noncomputable def b : Code := (Tryd.f3.body).getD .skip
theorem hf : prog.funcs[3]? = some Tryd.f3 := by kernel_rfl
noncomputable def r0 : Code := findReg b 0
noncomputable def r1 : Code := findReg b 1
noncomputable def r2 : Code := findReg b 2
noncomputable def k0 : Code := findBlk b 0
noncomputable def l0 : Code := loopOf k0
noncomputable def L0 (x1 x5 x7 x8 x9 : AV) (m : Mem) (K : List Item) : Option Res := den prog ann 3 (.code l0 :: .inLoop l0 :: .inBlock 0 :: K) ⟨[(1, x1), (5, x5), (7, x7), (8, x8), (9, x9)], 120, m⟩
noncomputable def r3 : Code := findReg b 3
noncomputable def i0 : Code := findCond b 0
noncomputable def i0t : Code := thenOf i0
noncomputable def i0e : Code := elseOf i0
noncomputable def k1 : Code := findBlk b 1
noncomputable def r5 : Code := findReg b 5
noncomputable def i1 : Code := findCond b 1
noncomputable def i1t : Code := thenOf i1
noncomputable def i1e : Code := elseOf i1
noncomputable def r6 : Code := findReg b 6
noncomputable def r4 : Code := findReg b 4
noncomputable def r7 : Code := findReg b 7
noncomputable def i2 : Code := findCond b 2
noncomputable def i2t : Code := thenOf i2
noncomputable def i2e : Code := elseOf i2
noncomputable def r8 : Code := findReg b 8
noncomputable def r9 : Code := findReg b 9
noncomputable def r10 : Code := findReg b 10
noncomputable def i3 : Code := findCond b 3
noncomputable def i3t : Code := thenOf i3
noncomputable def i3e : Code := elseOf i3
noncomputable def r11 : Code := findReg b 11
noncomputable def r12 : Code := findReg b 12
noncomputable def r13 : Code := findReg b 13
noncomputable def k2 : Code := findBlk b 2
noncomputable def l2 : Code := loopOf k2
noncomputable def L2 (x7 x10 x12 x13 : AV) (m : Mem) (K : List Item) : Option Res := den prog ann 3 (.code l2 :: .inLoop l2 :: .inBlock 2 :: K) ⟨[(7, x7), (10, x10), (12, x12), (13, x13)], 120, m⟩
noncomputable def r14 : Code := findReg b 14
noncomputable def i4 : Code := findCond b 4
noncomputable def i4t : Code := thenOf i4
noncomputable def i4e : Code := elseOf i4
noncomputable def k3 : Code := findBlk b 3
noncomputable def r16 : Code := findReg b 16
noncomputable def i5 : Code := findCond b 5
noncomputable def i5t : Code := thenOf i5
noncomputable def i5e : Code := elseOf i5
noncomputable def r17 : Code := findReg b 17
noncomputable def r18 : Code := findReg b 18
noncomputable def r15 : Code := findReg b 15
noncomputable def r19 : Code := findReg b 19
noncomputable def k4 : Code := findBlk b 4
noncomputable def l4 : Code := loopOf k4
noncomputable def L4 (x7 x10 x12 x14 : AV) (m : Mem) (K : List Item) : Option Res := den prog ann 3 (.code l4 :: .inLoop l4 :: .inBlock 4 :: K) ⟨[(7, x7), (10, x10), (12, x12), (14, x14)], 120, m⟩
noncomputable def r20 : Code := findReg b 20
noncomputable def i6 : Code := findCond b 6
noncomputable def i6t : Code := thenOf i6
noncomputable def i6e : Code := elseOf i6
noncomputable def k5 : Code := findBlk b 5
noncomputable def r22 : Code := findReg b 22
noncomputable def k6 : Code := findBlk b 6
noncomputable def l6 : Code := loopOf k6
noncomputable def L6 (x7 x10 x12 x14 x15 : AV) (m : Mem) (K : List Item) : Option Res := den prog ann 3 (.code l6 :: .inLoop l6 :: .inBlock 6 :: K) ⟨[(7, x7), (10, x10), (12, x12), (14, x14), (15, x15)], 120, m⟩
noncomputable def r23 : Code := findReg b 23
noncomputable def i7 : Code := findCond b 7
noncomputable def i7t : Code := thenOf i7
noncomputable def i7e : Code := elseOf i7
noncomputable def k7 : Code := findBlk b 7
noncomputable def r25 : Code := findReg b 25
noncomputable def i8 : Code := findCond b 8
noncomputable def i8t : Code := thenOf i8
noncomputable def i8e : Code := elseOf i8
noncomputable def r26 : Code := findReg b 26
noncomputable def r24 : Code := findReg b 24
noncomputable def r21 : Code := findReg b 21
noncomputable def r27 : Code := findReg b 27
theorem b_eq (K : List Item) (s : St) : den prog ann 3 (.code b :: K) s = den prog ann 3 (.code r0 :: .code r1 :: .code r2 :: .code k0 :: .code r7 :: .code i2 :: .code r9 :: .code r10 :: .code i3 :: .code r12 :: .code r13 :: .code k2 :: .code r19 :: .code k4 :: .code r27 :: .code .ret :: K) s := den_flat hf (l := [r0, r1, r2, k0, r7, i2, r9, r10, i3, r12, r13, k2, r19, k4, r27, .ret]) (by kernel_rfl) K s
theorem r0_eq (K : List Item) (s : St) : den prog ann 3 (.code r0 :: K) s = mreg prog ann 3 none [] none [] [
    ⟨some 5, none, .v fun s => frozenPtr (s.get 2)⟩,
    ⟨some 6, none, .v fun s => some (.bool false)⟩] K s := (den_reg hf _ K s).trans (by kernel_rfl)
theorem r1_eq (K : List Item) (s : St) : den prog ann 3 (.code r1 :: K) s = mreg prog ann 3 none [] none [] [
    ⟨some 16, none, .v fun s => some (s.get 0)⟩,
    ⟨some 17, none, .v fun s => convInt .i64 (s.get 16)⟩,
    ⟨some 18, none, .v fun s => binA prog .rem 3 (s.get 17) (.int .i64 30)⟩,
    ⟨some 19, none, .v fun s => binA prog .add 3 (s.get 18) (.int .i64 2)⟩,
    ⟨some 20, none, .w false none fun s => bslM s.m 0 (bslA 1 0 [.int .i64 0] [])⟩,
    ⟨some 7, none, .v fun s => some (s.get 19)⟩,
    ⟨some 8, none, .v fun s => some (s.get 20)⟩] K s := (den_reg hf _ K s).trans (by kernel_rfl)
theorem r2_eq (K : List Item) (s : St) : den prog ann 3 (.code r2 :: K) s = mreg prog ann 3 none [] none [] [
    ⟨some 9, none, .v fun s => some (.int .i64 0)⟩] K s := (den_reg hf _ K s).trans (by kernel_rfl)
theorem k0_eq (K : List Item) (t : List (Nat × AV)) (m : Mem) : den prog ann 3 (.code k0 :: K) ⟨t, 120, m⟩ = L0 (get t 1) (get t 5) (get t 7) (get t 8) (get t 9) m K := den_loop_enter hf (b := l0) (id := 3) (l := [1, 5, 7, 8, 9]) (by kernel_rfl) (by kernel_rfl) (by kernel_rfl) K _
theorem l0_eq (K : List Item) (t : List (Nat × AV)) (m : Mem) : den prog ann 3 (.inLoop l0 :: .inBlock 0 :: K) ⟨t, 120, m⟩ = L0 (get t 1) (get t 5) (get t 7) (get t 8) (get t 9) m K := den_loop_again hf (id := 3) (l := [1, 5, 7, 8, 9]) (by kernel_rfl) (by kernel_rfl) (.inBlock 0 :: K) _
theorem L0_eq (x1 x5 x7 x8 x9 : AV) (m : Mem) (K : List Item) : L0 x1 x5 x7 x8 x9 m K = den prog ann 3 (.code r3 :: .code i0 :: .code k1 :: .code r4 :: .inLoop l0 :: .inBlock 0 :: K) ⟨[(1, x1), (5, x5), (7, x7), (8, x8), (9, x9)], 120, m⟩ := den_flat hf (l := [r3, i0, k1, r4]) (by kernel_rfl) _ _
theorem r3_eq (K : List Item) (s : St) : den prog ann 3 (.code r3 :: K) s = mreg prog ann 3 (some [1, 5, 7, 8, 9]) [] none [] [
    ⟨some 21, none, .v fun s => some (s.get 9)⟩,
    ⟨some 22, none, .v fun s => some (s.get 7)⟩,
    ⟨some 23, none, .v fun s => binA prog .lss 3 (s.get 21) (s.get 22)⟩] K s := (den_reg hf _ K s).trans (by kernel_rfl)
theorem i0_eq (K : List Item) (s : St) : den prog ann 3 (.code i0 :: K) s = ifV prog ann 3 23 i0t i0e K s (s.get 23) := den_if hf (by kernel_rfl) K s
theorem i0t_eq (K : List Item) (s : St) : den prog ann 3 (.code i0t :: K) s = den prog ann 3 (K) s := den_flat hf (l := []) (by kernel_rfl) K s
theorem i0e_eq (K : List Item) (s : St) : den prog ann 3 (.code i0e :: K) s = den prog ann 3 (.code (.exit 0) :: K) s := den_flat hf (l := [(.exit 0)]) (by kernel_rfl) K s
theorem k1_eq (K : List Item) (s : St) : den prog ann 3 (.code k1 :: K) s = den prog ann 3 (.code r5 :: .code i1 :: .inBlock 1 :: K) s := den_blk hf (b := blkOf k1) (l := [r5, i1]) (by kernel_rfl) (by kernel_rfl) K s
theorem r5_eq (K : List Item) (s : St) : den prog ann 3 (.code r5 :: K) s = mreg prog ann 3 none [] none [] [
    ⟨some 26, none, .v fun s => some (s.get 1)⟩,
    ⟨some 27, none, .v fun s => some (s.get 9)⟩,
    ⟨some 28, none, .v fun s => binA prog .shr 22 (s.get 26) (s.get 27)⟩,
    ⟨some 29, none, .v fun s => binA prog .and 22 (s.get 28) (.int .u32 1)⟩,
    ⟨some 30, none, .v fun s => binA prog .eql 22 (s.get 29) (.int .u32 1)⟩] K s := (den_reg hf _ K s).trans (by kernel_rfl)
theorem i1_eq (K : List Item) (s : St) : den prog ann 3 (.code i1 :: K) s = ifV prog ann 3 30 i1t i1e K s (s.get 30) := den_if hf (by kernel_rfl) K s
theorem i1t_eq (K : List Item) (s : St) : den prog ann 3 (.code i1t :: K) s = den prog ann 3 (.code r6 :: K) s := den_flat hf (l := [r6]) (by kernel_rfl) K s
theorem r6_eq (K : List Item) (s : St) : den prog ann 3 (.code r6 :: K) s = mreg prog ann 3 none [] none [] [
    ⟨some 31, none, .v fun s => some (s.get 8)⟩,
    ⟨some 32, none, .v fun s => some (s.get 9)⟩,
    ⟨some 33, none, .v fun s => bslF 1 (bslA 1 1 [.int .i64 0] [(0, (s.get 32))])⟩,
    ⟨some 34, none, .w false none fun s => appendA 1 8 s.m (s.get 31) (s.get 33)⟩,
    ⟨some 8, none, .v fun s => some (s.get 34)⟩] K s := (den_reg hf _ K s).trans (by kernel_rfl)
theorem i1e_eq (K : List Item) (s : St) : den prog ann 3 (.code i1e :: K) s = den prog ann 3 (K) s := den_flat hf (l := []) (by kernel_rfl) K s
theorem r4_eq (K : List Item) (s : St) : den prog ann 3 (.code r4 :: K) s = mreg prog ann 3 (some [1, 5, 7, 8, 9]) [] none [] [
    ⟨some 24, none, .v fun s => some (s.get 9)⟩,
    ⟨some 25, none, .v fun s => binA prog .add 3 (s.get 24) (.int .i64 1)⟩,
    ⟨some 9, none, .v fun s => some (s.get 25)⟩] K s := (den_reg hf _ K s).trans (by kernel_rfl)
theorem r7_eq (K : List Item) (s : St) : den prog ann 3 (.code r7 :: K) s = mreg prog ann 3 (some [5, 7, 8]) [] none [] [
    ⟨some 35, none, .v fun s => some (s.get 8)⟩,
    ⟨some 36, none, .v fun s => lenSl (s.get 35)⟩,
    ⟨some 37, none, .v fun s => binA prog .eql 3 (s.get 36) (.int .i64 0)⟩] K s := (den_reg hf _ K s).trans (by kernel_rfl)
theorem i2_eq (K : List Item) (s : St) : den prog ann 3 (.code i2 :: K) s = ifV prog ann 3 37 i2t i2e K s (s.get 37) := den_if hf (by kernel_rfl) K s
theorem i2t_eq (K : List Item) (s : St) : den prog ann 3 (.code i2t :: K) s = den prog ann 3 (.code r8 :: K) s := den_flat hf (l := [r8]) (by kernel_rfl) K s
theorem r8_eq (K : List Item) (s : St) : den prog ann 3 (.code r8 :: K) s = mreg prog ann 3 none [] none [] [
    ⟨some 39, none, .v fun s => loadF true 3 (s.get 5)⟩,
    ⟨some 40, none, .c 0 (fun s => (.fn 7 [] [])) fun s => [(s.get 39)]⟩,
    ⟨some 38, none, .v fun s => some (s.get 40)⟩,
    ⟨some 41, none, .v fun s => extA (s.get 38) 0⟩,
    ⟨some 42, none, .v fun s => extA (s.get 38) 1⟩,
    ⟨some 7, none, .v fun s => some (s.get 41)⟩,
    ⟨some 8, none, .v fun s => some (s.get 42)⟩] K s := (den_reg hf _ K s).trans (by kernel_rfl)
theorem i2e_eq (K : List Item) (s : St) : den prog ann 3 (.code i2e :: K) s = den prog ann 3 (K) s := den_flat hf (l := []) (by kernel_rfl) K s
theorem r9_eq (K : List Item) (s : St) : den prog ann 3 (.code r9 :: K) s = mreg prog ann 3 (some [7, 8]) [] none [] [
    ⟨some 44, none, .v fun s => some (s.get 7)⟩,
    ⟨some 45, none, .v fun s => some (s.get 8)⟩,
    ⟨some 46, none, .c 2 (fun s => (.fn 8 [] [])) fun s => [(s.get 44), (s.get 45)]⟩,
    ⟨some 43, none, .v fun s => some (s.get 46)⟩,
    ⟨some 47, none, .v fun s => extA (s.get 43) 0⟩,
    ⟨some 48, none, .v fun s => extA (s.get 43) 1⟩,
    ⟨some 10, none, .v fun s => some (s.get 47)⟩,
    ⟨some 11, none, .v fun s => some (s.get 48)⟩] K s := (den_reg hf _ K s).trans (by kernel_rfl)
theorem r10_eq (K : List Item) (s : St) : den prog ann 3 (.code r10 :: K) s = mreg prog ann 3 none [] none [] [
    ⟨some 49, none, .v fun s => some (s.get 11)⟩,
    ⟨some 50, none, .v fun s => binA prog .neq 27 (s.get 49) (.int .i64 0)⟩,
    ⟨some 51, none, .v fun s => some (s.get 50)⟩,
    ⟨some 52, some (51, false), .v fun s => some (s.get 10)⟩,
    ⟨some 53, some (51, false), .v fun s => lenSl (s.get 52)⟩,
    ⟨some 54, some (51, false), .v fun s => binA prog .eql 3 (s.get 53) (.int .i64 0)⟩,
    ⟨some 55, none, .v fun s => pickA (s.get 51) (.bool true) (s.get 54)⟩,
    ⟨some 56, none, .v fun s => some (s.get 55)⟩,
    ⟨some 57, some (56, false), .v fun s => some (s.get 10)⟩,
    ⟨some 58, some (56, false), .v fun s => idxSl 1 (s.get 57) (.int .i64 0)⟩,
    ⟨some 59, some (56, false), .v fun s => loadF false 1 (s.get 58)⟩,
    ⟨some 60, some (56, false), .v fun s => binA prog .neq 3 (s.get 59) (.int .i64 1)⟩,
    ⟨some 61, none, .v fun s => pickA (s.get 56) (.bool true) (s.get 60)⟩,
    ⟨some 62, none, .v fun s => some (s.get 61)⟩,
    ⟨some 63, some (62, false), .c 0 (fun s => (.fn 9 [] [])) fun s => []⟩,
    ⟨some 64, some (62, false), .v fun s => unA .not (s.get 63)⟩,
    ⟨some 65, none, .v fun s => pickA (s.get 62) (.bool true) (s.get 64)⟩] K s := (den_reg hf _ K s).trans (by kernel_rfl)
theorem i3_eq (K : List Item) (s : St) : den prog ann 3 (.code i3 :: K) s = ifV prog ann 3 65 i3t i3e K s (s.get 65) := den_if hf (by kernel_rfl) K s
theorem i3t_eq (K : List Item) (s : St) : den prog ann 3 (.code i3t :: K) s = den prog ann 3 (.code r11 :: .code .ret :: K) s := den_flat hf (l := [r11, .ret]) (by kernel_rfl) K s
theorem r11_eq (K : List Item) (s : St) : den prog ann 3 (.code r11 :: K) s = mreg prog ann 3 none [] none [] [
    ⟨some 6, none, .v fun s => some (.bool false)⟩] K s := (den_reg hf _ K s).trans (by kernel_rfl)
theorem i3e_eq (K : List Item) (s : St) : den prog ann 3 (.code i3e :: K) s = den prog ann 3 (K) s := den_flat hf (l := []) (by kernel_rfl) K s
theorem r12_eq (K : List Item) (s : St) : den prog ann 3 (.code r12 :: K) s = mreg prog ann 3 none [] none [] [
    ⟨some 66, none, .v fun s => some (s.get 7)⟩,
    ⟨some 67, none, .w false none fun s => makeA 1 1 (.bool false) s.m (s.get 66) (s.get 66)⟩,
    ⟨some 12, none, .v fun s => some (s.get 67)⟩] K s := (den_reg hf _ K s).trans (by kernel_rfl)
theorem r13_eq (K : List Item) (s : St) : den prog ann 3 (.code r13 :: K) s = mreg prog ann 3 none [] none [] [
    ⟨some 13, none, .v fun s => some (.int .i64 0)⟩] K s := (den_reg hf _ K s).trans (by kernel_rfl)
theorem k2_eq (K : List Item) (t : List (Nat × AV)) (m : Mem) : den prog ann 3 (.code k2 :: K) ⟨t, 120, m⟩ = L2 (get t 7) (get t 10) (get t 12) (get t 13) m K := den_loop_enter hf (b := l2) (id := 14) (l := [7, 10, 12, 13]) (by kernel_rfl) (by kernel_rfl) (by kernel_rfl) K _
theorem l2_eq (K : List Item) (t : List (Nat × AV)) (m : Mem) : den prog ann 3 (.inLoop l2 :: .inBlock 2 :: K) ⟨t, 120, m⟩ = L2 (get t 7) (get t 10) (get t 12) (get t 13) m K := den_loop_again hf (id := 14) (l := [7, 10, 12, 13]) (by kernel_rfl) (by kernel_rfl) (.inBlock 2 :: K) _
theorem L2_eq (x7 x10 x12 x13 : AV) (m : Mem) (K : List Item) : L2 x7 x10 x12 x13 m K = den prog ann 3 (.code r14 :: .code i4 :: .code k3 :: .code r15 :: .inLoop l2 :: .inBlock 2 :: K) ⟨[(7, x7), (10, x10), (12, x12), (13, x13)], 120, m⟩ := den_flat hf (l := [r14, i4, k3, r15]) (by kernel_rfl) _ _
theorem r14_eq (K : List Item) (s : St) : den prog ann 3 (.code r14 :: K) s = mreg prog ann 3 (some [7, 10, 12, 13]) [] none [] [
    ⟨some 68, none, .v fun s => some (s.get 13)⟩,
    ⟨some 69, none, .v fun s => some (s.get 10)⟩,
    ⟨some 70, none, .v fun s => lenSl (s.get 69)⟩,
    ⟨some 71, none, .v fun s => binA prog .lss 3 (s.get 68) (s.get 70)⟩] K s := (den_reg hf _ K s).trans (by kernel_rfl)
theorem i4_eq (K : List Item) (s : St) : den prog ann 3 (.code i4 :: K) s = ifV prog ann 3 71 i4t i4e K s (s.get 71) := den_if hf (by kernel_rfl) K s
theorem i4t_eq (K : List Item) (s : St) : den prog ann 3 (.code i4t :: K) s = den prog ann 3 (K) s := den_flat hf (l := []) (by kernel_rfl) K s
theorem i4e_eq (K : List Item) (s : St) : den prog ann 3 (.code i4e :: K) s = den prog ann 3 (.code (.exit 2) :: K) s := den_flat hf (l := [(.exit 2)]) (by kernel_rfl) K s
theorem k3_eq (K : List Item) (s : St) : den prog ann 3 (.code k3 :: K) s = den prog ann 3 (.code r16 :: .code i5 :: .code r18 :: .inBlock 3 :: K) s := den_blk hf (b := blkOf k3) (l := [r16, i5, r18]) (by kernel_rfl) (by kernel_rfl) K s
theorem r16_eq (K : List Item) (s : St) : den prog ann 3 (.code r16 :: K) s = mreg prog ann 3 none [] none [] [
    ⟨some 74, none, .v fun s => some (s.get 10)⟩,
    ⟨some 75, none, .v fun s => some (s.get 13)⟩,
    ⟨some 76, none, .v fun s => idxSl 1 (s.get 74) (s.get 75)⟩,
    ⟨some 77, none, .v fun s => loadF false 1 (s.get 76)⟩,
    ⟨some 78, none, .v fun s => binA prog .lss 3 (s.get 77) (.int .i64 1)⟩,
    ⟨some 79, none, .v fun s => some (s.get 78)⟩,
    ⟨some 80, some (79, false), .v fun s => some (s.get 10)⟩,
    ⟨some 81, some (79, false), .v fun s => some (s.get 13)⟩,
    ⟨some 82, some (79, false), .v fun s => idxSl 1 (s.get 80) (s.get 81)⟩,
    ⟨some 83, some (79, false), .v fun s => loadF false 1 (s.get 82)⟩,
    ⟨some 84, some (79, false), .v fun s => some (s.get 7)⟩,
    ⟨some 85, some (79, false), .v fun s => binA prog .geq 3 (s.get 83) (s.get 84)⟩,
    ⟨some 86, none, .v fun s => pickA (s.get 79) (.bool true) (s.get 85)⟩] K s := (den_reg hf _ K s).trans (by kernel_rfl)
theorem i5_eq (K : List Item) (s : St) : den prog ann 3 (.code i5 :: K) s = ifV prog ann 3 86 i5t i5e K s (s.get 86) := den_if hf (by kernel_rfl) K s
theorem i5t_eq (K : List Item) (s : St) : den prog ann 3 (.code i5t :: K) s = den prog ann 3 (.code r17 :: .code .ret :: K) s := den_flat hf (l := [r17, .ret]) (by kernel_rfl) K s
theorem r17_eq (K : List Item) (s : St) : den prog ann 3 (.code r17 :: K) s = mreg prog ann 3 none [] none [] [
    ⟨some 6, none, .v fun s => some (.bool false)⟩] K s := (den_reg hf _ K s).trans (by kernel_rfl)
theorem i5e_eq (K : List Item) (s : St) : den prog ann 3 (.code i5e :: K) s = den prog ann 3 (K) s := den_flat hf (l := []) (by kernel_rfl) K s
theorem r18_eq (K : List Item) (s : St) : den prog ann 3 (.code r18 :: K) s = mreg prog ann 3 none [] none [] [
    ⟨some 87, none, .v fun s => some (s.get 12)⟩,
    ⟨some 88, none, .v fun s => some (s.get 10)⟩,
    ⟨some 89, none, .v fun s => some (s.get 13)⟩,
    ⟨some 90, none, .v fun s => idxSl 1 (s.get 88) (s.get 89)⟩,
    ⟨some 91, none, .v fun s => loadF false 1 (s.get 90)⟩,
    ⟨some 92, none, .v fun s => idxSl 1 (s.get 87) (s.get 91)⟩,
    ⟨none, none, .w false none fun s => stA false 1 s.m (s.get 92) (.bool true)⟩] K s := (den_reg hf _ K s).trans (by kernel_rfl)
theorem r15_eq (K : List Item) (s : St) : den prog ann 3 (.code r15 :: K) s = mreg prog ann 3 (some [7, 10, 12, 13]) [] none [] [
    ⟨some 72, none, .v fun s => some (s.get 13)⟩,
    ⟨some 73, none, .v fun s => binA prog .add 3 (s.get 72) (.int .i64 1)⟩,
    ⟨some 13, none, .v fun s => some (s.get 73)⟩] K s := (den_reg hf _ K s).trans (by kernel_rfl)
theorem r19_eq (K : List Item) (s : St) : den prog ann 3 (.code r19 :: K) s = mreg prog ann 3 (some [7, 10, 12]) [] none [] [
    ⟨some 14, none, .v fun s => some (.int .i64 0)⟩] K s := (den_reg hf _ K s).trans (by kernel_rfl)
theorem k4_eq (K : List Item) (t : List (Nat × AV)) (m : Mem) : den prog ann 3 (.code k4 :: K) ⟨t, 120, m⟩ = L4 (get t 7) (get t 10) (get t 12) (get t 14) m K := den_loop_enter hf (b := l4) (id := 20) (l := [7, 10, 12, 14]) (by kernel_rfl) (by kernel_rfl) (by kernel_rfl) K _
theorem l4_eq (K : List Item) (t : List (Nat × AV)) (m : Mem) : den prog ann 3 (.inLoop l4 :: .inBlock 4 :: K) ⟨t, 120, m⟩ = L4 (get t 7) (get t 10) (get t 12) (get t 14) m K := den_loop_again hf (id := 20) (l := [7, 10, 12, 14]) (by kernel_rfl) (by kernel_rfl) (.inBlock 4 :: K) _
theorem L4_eq (x7 x10 x12 x14 : AV) (m : Mem) (K : List Item) : L4 x7 x10 x12 x14 m K = den prog ann 3 (.code r20 :: .code i6 :: .code k5 :: .code r21 :: .inLoop l4 :: .inBlock 4 :: K) ⟨[(7, x7), (10, x10), (12, x12), (14, x14)], 120, m⟩ := den_flat hf (l := [r20, i6, k5, r21]) (by kernel_rfl) _ _
theorem r20_eq (K : List Item) (s : St) : den prog ann 3 (.code r20 :: K) s = mreg prog ann 3 (some [7, 10, 12, 14]) [] none [] [
    ⟨some 93, none, .v fun s => some (s.get 14)⟩,
    ⟨some 94, none, .v fun s => some (s.get 10)⟩,
    ⟨some 95, none, .v fun s => lenSl (s.get 94)⟩,
    ⟨some 96, none, .v fun s => binA prog .lss 3 (s.get 93) (s.get 95)⟩] K s := (den_reg hf _ K s).trans (by kernel_rfl)
theorem i6_eq (K : List Item) (s : St) : den prog ann 3 (.code i6 :: K) s = ifV prog ann 3 96 i6t i6e K s (s.get 96) := den_if hf (by kernel_rfl) K s
theorem i6t_eq (K : List Item) (s : St) : den prog ann 3 (.code i6t :: K) s = den prog ann 3 (K) s := den_flat hf (l := []) (by kernel_rfl) K s
theorem i6e_eq (K : List Item) (s : St) : den prog ann 3 (.code i6e :: K) s = den prog ann 3 (.code (.exit 4) :: K) s := den_flat hf (l := [(.exit 4)]) (by kernel_rfl) K s
theorem k5_eq (K : List Item) (s : St) : den prog ann 3 (.code k5 :: K) s = den prog ann 3 (.code r22 :: .code k6 :: .inBlock 5 :: K) s := den_blk hf (b := blkOf k5) (l := [r22, k6]) (by kernel_rfl) (by kernel_rfl) K s
theorem r22_eq (K : List Item) (s : St) : den prog ann 3 (.code r22 :: K) s = mreg prog ann 3 none [] none [] [
    ⟨some 15, none, .v fun s => some (.int .i64 0)⟩] K s := (den_reg hf _ K s).trans (by kernel_rfl)
theorem k6_eq (K : List Item) (t : List (Nat × AV)) (m : Mem) : den prog ann 3 (.code k6 :: K) ⟨t, 120, m⟩ = L6 (get t 7) (get t 10) (get t 12) (get t 14) (get t 15) m K := den_loop_enter hf (b := l6) (id := 23) (l := [7, 10, 12, 14, 15]) (by kernel_rfl) (by kernel_rfl) (by kernel_rfl) K _
theorem l6_eq (K : List Item) (t : List (Nat × AV)) (m : Mem) : den prog ann 3 (.inLoop l6 :: .inBlock 6 :: K) ⟨t, 120, m⟩ = L6 (get t 7) (get t 10) (get t 12) (get t 14) (get t 15) m K := den_loop_again hf (id := 23) (l := [7, 10, 12, 14, 15]) (by kernel_rfl) (by kernel_rfl) (.inBlock 6 :: K) _
theorem L6_eq (x7 x10 x12 x14 x15 : AV) (m : Mem) (K : List Item) : L6 x7 x10 x12 x14 x15 m K = den prog ann 3 (.code r23 :: .code i7 :: .code k7 :: .code r24 :: .inLoop l6 :: .inBlock 6 :: K) ⟨[(7, x7), (10, x10), (12, x12), (14, x14), (15, x15)], 120, m⟩ := den_flat hf (l := [r23, i7, k7, r24]) (by kernel_rfl) _ _
theorem r23_eq (K : List Item) (s : St) : den prog ann 3 (.code r23 :: K) s = mreg prog ann 3 (some [7, 10, 12, 14, 15]) [] none [] [
    ⟨some 99, none, .v fun s => some (s.get 15)⟩,
    ⟨some 100, none, .v fun s => some (s.get 10)⟩,
    ⟨some 101, none, .v fun s => lenSl (s.get 100)⟩,
    ⟨some 102, none, .v fun s => binA prog .lss 3 (s.get 99) (s.get 101)⟩] K s := (den_reg hf _ K s).trans (by kernel_rfl)
theorem i7_eq (K : List Item) (s : St) : den prog ann 3 (.code i7 :: K) s = ifV prog ann 3 102 i7t i7e K s (s.get 102) := den_if hf (by kernel_rfl) K s
theorem i7t_eq (K : List Item) (s : St) : den prog ann 3 (.code i7t :: K) s = den prog ann 3 (K) s := den_flat hf (l := []) (by kernel_rfl) K s
theorem i7e_eq (K : List Item) (s : St) : den prog ann 3 (.code i7e :: K) s = den prog ann 3 (.code (.exit 6) :: K) s := den_flat hf (l := [(.exit 6)]) (by kernel_rfl) K s
theorem k7_eq (K : List Item) (s : St) : den prog ann 3 (.code k7 :: K) s = den prog ann 3 (.code r25 :: .code i8 :: .inBlock 7 :: K) s := den_blk hf (b := blkOf k7) (l := [r25, i8]) (by kernel_rfl) (by kernel_rfl) K s
theorem r25_draw : drawOk (fun g => (ann g).pure) (modeOf (ann 3) (idOf r25)) (frzOf (ann 3) (idOf r25)) (opsOf r25) = true := drawOk_of (an := [0, 0, 0, 6, 14, 0, 0, 96, 224, 510, 0, 2046, 4095, 8191, 16383]) (by kernel_rfl) (by kernel_rfl)
theorem r25_eq (K : List Item) (s : St) : den prog ann 3 (.code r25 :: K) s = mreg prog ann 3 none [] (some 15) [] [
    ⟨some 105, none, .v fun s => some (s.get 12)⟩,
    ⟨some 106, none, .v fun s => some (s.get 10)⟩,
    ⟨some 107, none, .v fun s => some (s.get 14)⟩,
    ⟨some 108, none, .v fun s => idxSl 1 (s.get 106) (s.get 107)⟩,
    ⟨some 109, none, .v fun s => loadF false 1 (s.get 108)⟩,
    ⟨some 110, none, .v fun s => some (s.get 10)⟩,
    ⟨some 111, none, .v fun s => some (s.get 15)⟩,
    ⟨some 112, none, .v fun s => idxSl 1 (s.get 110) (s.get 111)⟩,
    ⟨some 113, none, .v fun s => loadF false 1 (s.get 112)⟩,
    ⟨some 114, none, .v fun s => binA prog .mul 3 (s.get 109) (s.get 113)⟩,
    ⟨some 115, none, .v fun s => some (s.get 7)⟩,
    ⟨some 116, none, .v fun s => binA prog .rem 3 (s.get 114) (s.get 115)⟩,
    ⟨some 117, none, .v fun s => idxSl 1 (s.get 105) (s.get 116)⟩,
    ⟨some 118, none, .v fun s => loadA false 1 s.m (s.get 117)⟩,
    ⟨some 119, none, .v fun s => unA .not (s.get 118)⟩] K s := (den_regD hf r25_draw K s).trans (by kernel_rfl)
theorem i8_eq (K : List Item) (s : St) : den prog ann 3 (.code i8 :: K) s = ifV prog ann 3 119 i8t i8e K s (s.get 119) := den_if hf (by kernel_rfl) K s
theorem i8t_eq (K : List Item) (s : St) : den prog ann 3 (.code i8t :: K) s = den prog ann 3 (.code r26 :: .code .ret :: K) s := den_flat hf (l := [r26, .ret]) (by kernel_rfl) K s
theorem r26_eq (K : List Item) (s : St) : den prog ann 3 (.code r26 :: K) s = mreg prog ann 3 none [] none [] [
    ⟨some 6, none, .v fun s => some (.bool false)⟩] K s := (den_reg hf _ K s).trans (by kernel_rfl)
theorem i8e_eq (K : List Item) (s : St) : den prog ann 3 (.code i8e :: K) s = den prog ann 3 (K) s := den_flat hf (l := []) (by kernel_rfl) K s
theorem r24_eq (K : List Item) (s : St) : den prog ann 3 (.code r24 :: K) s = mreg prog ann 3 (some [7, 10, 12, 14, 15]) [] none [] [
    ⟨some 103, none, .v fun s => some (s.get 15)⟩,
    ⟨some 104, none, .v fun s => binA prog .add 3 (s.get 103) (.int .i64 1)⟩,
    ⟨some 15, none, .v fun s => some (s.get 104)⟩] K s := (den_reg hf _ K s).trans (by kernel_rfl)
theorem r21_eq (K : List Item) (s : St) : den prog ann 3 (.code r21 :: K) s = mreg prog ann 3 (some [7, 10, 12, 14]) [] none [] [
    ⟨some 97, none, .v fun s => some (s.get 14)⟩,
    ⟨some 98, none, .v fun s => binA prog .add 3 (s.get 97) (.int .i64 1)⟩,
    ⟨some 14, none, .v fun s => some (s.get 98)⟩] K s := (den_reg hf _ K s).trans (by kernel_rfl)
theorem r27_eq (K : List Item) (s : St) : den prog ann 3 (.code r27 :: K) s = mreg prog ann 3 (some []) [] none [] [
    ⟨some 6, none, .v fun s => some (.bool true)⟩] K s := (den_reg hf _ K s).trans (by kernel_rfl)
theorem ret_eq (K : List Item) (s : St) : den prog ann 3 (.code .ret :: K) s = finM true [fun s => some (s.get 6)] s := (den_ret hf K s).trans (by kernel_rfl)
theorem nil_eq (s : St) : den prog ann 3 [] s = finM true [fun s => some (s.get 6)] s := (den_nil hf s).trans (by kernel_rfl)
theorem inBlock_eq (id : Nat) (K : List Item) (s : St) : den prog ann 3 (.inBlock id :: K) s = den prog ann 3 K s := den_inBlock hf id K s
theorem exit_eq (id : Nat) (K : List Item) (s : St) : den prog ann 3 (.code (.exit id) :: K) s = exitV prog ann 3 (exitTo id K) s := den_exitV hf id K s
theorem call_eq (v0 v1 v2 : AV) (m : Mem) (h : closedL [v0, v1, v2] = true) : denC prog ann 3 [v0, v1, v2] m = (den prog ann 3 [.code b] ⟨[(0, v0), (1, v1), (2, v2)], 120, Mem.empty⟩).bind fun r => some (r.1, m) := (denC_pure hf (b := b) (by kernel_rfl) (by kernel_rfl) (by kernel_rfl) h m).trans (by kernel_rfl)
theorem pure_eq : (ann 3).pure = true := by kernel_rfl
attribute [simp] b_eq r0_eq r1_eq r2_eq k0_eq l0_eq r3_eq i0_eq i0t_eq i0e_eq k1_eq r5_eq i1_eq i1t_eq r6_eq i1e_eq r4_eq r7_eq i2_eq i2t_eq r8_eq i2e_eq r9_eq r10_eq i3_eq i3t_eq r11_eq i3e_eq r12_eq r13_eq k2_eq l2_eq r14_eq i4_eq i4t_eq i4e_eq k3_eq r16_eq i5_eq i5t_eq r17_eq i5e_eq r18_eq r15_eq r19_eq k4_eq l4_eq r20_eq i6_eq i6t_eq i6e_eq k5_eq r22_eq k6_eq l6_eq r23_eq i7_eq i7t_eq i7e_eq k7_eq r25_eq i8_eq i8t_eq r26_eq i8e_eq r24_eq r21_eq r27_eq ret_eq nil_eq inBlock_eq exit_eq pure_eq
end l04_StrapGroup



end Go.Proofs.YtofceaeboboflaaDoor
