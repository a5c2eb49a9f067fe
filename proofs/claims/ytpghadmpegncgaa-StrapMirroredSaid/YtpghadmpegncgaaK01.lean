/-
  STRAPS (2): the specification's test; how often each distance comes. Conditions: none.
-/
import Derived.Test.YtpghadmpegncgaaK00
import Derived.Test.YtpghadmpegncgaaKAmH
import Derived.Test.YtpghadmpegncgaaKAmF
import Derived.Test.YtpghadmpegncgaaKAmE
set_option linter.all false
namespace Go.Proofs.Ytpghadmpegncgaa
open Go.AM
open Go.Proofs.Try (prog)
set_option linter.all false
set_option maxRecDepth 100000
set_option maxHeartbeats 4000000

def okAt (l : List Int) (j : Nat) : Bool := if j = 0 then decide (nth l 0 = 0) else decide (nth l (j - 1) < nth l j) && decide (nth l j ≤ 1000)
theorem ref_loop {v : AV} {l : List Int} (hv : IsInts v l) (hl : l.length ≤ 40) : ∀ (k i : Nat) (m : Mem), i + k = l.length →
    r04_Strap.L0 v (.int .i64 i) m [.code r04_Strap.r8, .code r04_Strap.i3, .code r04_Strap.r10, .code .ret] = some (.int .i64 (if (List.range' i k).all (okAt l) = true ∧ l.length ≠ 0 then 0 else 2), Mem.empty) := by
  intro k
  induction k with
  | zero =>
    intro i m h1
    have e : i = l.length := by omega
    rw [r04_Strap.L0_eq]
    by_cases h0 : l.length = 0
    · simp [e, hv.len, h0]
      done
    · simp [e, hv.len, h0]
      done
  | succ k ih =>
    intro i m h1
    have hi : i < l.length := by omega
    have hw : IntKind.wrap .i64 ((i : Int) + 1) = (i : Int) + 1 := wrap_id (by omega) (by omega)
    have hst := fun m => ih (i + 1) m (by omega)
    simp only [Int.natCast_add, Int.cast_ofNat_Int] at hst
    have e : (List.range' i (k + 1)).all (okAt l) = (okAt l i && (List.range' (i + 1) k).all (okAt l)) := by simp [List.range'_succ]
    rw [e, r04_Strap.L0_eq]
    have h0 : ¬ l.length = 0 := by omega
    by_cases hz : i = 0
    · subst hz
      have i0 := hv.idx hi .i64
      have i1 := ints_head hi
      simp only [Int.ofNat_zero, Int.cast_ofNat_Int, List.drop_zero, Int.zero_add, Nat.zero_add] at i0 i1 hst hw
      by_cases q : nth l 0 = 0
      · have ho : okAt l 0 = true := by simp [okAt, q]
        rw [ho, Bool.true_and]
        simp [hv.len, hi, i0, i1, q, hw, hst, h0]
        done
      · have ho : okAt l 0 = false := by simp [okAt, q]
        rw [ho, Bool.false_and]
        simp [hv.len, hi, i0, i1, q, hw, hst]
        done
    · have hw1 : IntKind.wrap .i64 ((i : Int) - 1) = ((i - 1 : Nat) : Int) := by rw [wrap_id (by omega) (by omega)]; omega
      have hj : i - 1 < l.length := by omega
      have hz' : ¬ (i : Int) = 0 := by omega
      have hp : 0 < i := by omega
      by_cases q : nth l (i - 1) < nth l i
      · have q' : ¬ nth l i ≤ nth l (i - 1) := by omega
        by_cases q2 : 1000 < nth l i
        · have ho : okAt l i = false := by simp [okAt, hz]; omega
          rw [ho, Bool.false_and]
          simp [hv.len, hi, hv.idx hi, ints_head hi, hw1, hv.idx hj, ints_head hj, q', hw, hst, hz, hz', hp, q2]
          done
        · have ho : okAt l i = true := by simp [okAt, hz, q]; omega
          rw [ho, Bool.true_and]
          simp [hv.len, hi, hv.idx hi, ints_head hi, hw1, hv.idx hj, ints_head hj, q', hw, hst, h0, hz, hz', hp, q2]
          done
      · have q' : nth l i ≤ nth l (i - 1) := by omega
        have ho : okAt l i = false := by simp [okAt, hz]; omega
        rw [ho, Bool.false_and]
        simp [hv.len, hi, hv.idx hi, ints_head hi, hw1, hv.idx hj, ints_head hj, q', hw, hst, hz, hz', hp]
        done
theorem ref_spec {v : AV} {l : List Int} (hv : IsInts v l) (hl : l.length < 1000000) : ∃ e, StrapErr l e ∧ ∀ m, denC prog ann 25 [v] m = some (.int .i64 e, m) := by
  have hcl : closedL [v] = true := by simp [hv.closed]
  by_cases q1 : (40 : Int) < l.length
  · refine ⟨3, .long (by omega), fun m => ?_⟩
    rw [r04_Strap.call_eq _ _ hcl]
    simp [hv.len, q1]
    done
  · have lp := ref_loop hv (by omega) l.length 0 Mem.empty (by omega)
    simp only [Int.ofNat_zero, Int.cast_ofNat_Int] at lp
    by_cases q : (List.range' 0 l.length).all (okAt l) = true ∧ l.length ≠ 0
    · rw [if_pos q] at lp
      refine ⟨0, .ok ?_, fun m => ?_⟩
      · have a : ∀ j, j < l.length → okAt l j = true := fun j hj => by
          have := List.all_eq_true.1 q.1 j
          exact this (by simp [List.mem_range'_1]; omega)
        refine ⟨by omega, by omega, by simpa [okAt] using a 0 (by omega), fun i hi => ?_, ?_⟩
        · have := a (i + 1) hi
          simp [okAt] at this
          exact this.1
        · by_cases h1 : l.length = 1
          · have := a 0 (by omega)
            simp [okAt] at this
            rw [h1, show nth l (1 - 1) = nth l 0 from rfl, this]; decide
          · have := a (l.length - 1) (by omega)
            simp [okAt, show ¬ l.length - 1 = 0 by omega] at this
            exact this.2
      · rw [r04_Strap.call_eq _ _ hcl]
        simp [hv.len, q1, lp]
        done
    · rw [if_neg q] at lp
      refine ⟨2, .form (by omega) (fun s => q ⟨?_, by have := s.pos; omega⟩), fun m => ?_⟩
      · rw [List.all_eq_true]
        intro j hj
        simp [List.mem_range'_1] at hj
        by_cases hz : j = 0
        · simp [okAt, hz, s.zero]
        · have a := s.asc (j - 1) (by omega)
          rw [show j - 1 + 1 = j by omega] at a
          have b := s.most hj
          simp [okAt, hz, a, b]
      · rw [r04_Strap.call_eq _ _ hcl]
        simp [hv.len, q1, lp]
        done
theorem check_ref {v : AV} {l : List Int} (hv : IsInts v l) (hl : l.length < 1000000) : ∃ e, StrapErr l e ∧ (∀ m, denC prog ann 52 [v] m = some (.int .i64 e, m)) ∧ ∀ m, denC prog ann 25 [v] m = some (.int .i64 e, m) := by
  obtain ⟨e, h1, h2⟩ := check_spec hv hl
  obtain ⟨e', h3, h4⟩ := ref_spec hv hl
  have := h1.uniq h3
  subst this
  exact ⟨e, h1, h2, h4⟩

/-! ### How often each distance comes -/
def cntF (l : List Int) (x : Int) (k j : Nat) (c : List Int) : List Int := (List.range' j k).foldl (fun c q => bump c (x - nth l q).toNat) c
def cntO (l : List Int) (k i : Nat) (c : List Int) : List Int := (List.range' i k).foldl (fun c i => cntF l (nth l i) i 0 c) c
theorem cntF_succ (l : List Int) (x : Int) (k j : Nat) (c : List Int) : cntF l x (k + 1) j c = cntF l x k (j + 1) (bump c (x - nth l j).toNat) := by simp [cntF, List.range'_succ]
theorem cntO_succ (l : List Int) (k i : Nat) (c : List Int) : cntO l (k + 1) i c = cntO l k (i + 1) (cntF l (nth l i) i 0 c) := by simp [cntO, List.range'_succ]
theorem cntF_len (l : List Int) (x : Int) : ∀ (k j : Nat) (c : List Int), (cntF l x k j c).length = c.length
  | 0, _, _ => rfl
  | k + 1, j, c => by rw [cntF_succ, cntF_len, bump_len]
/-- The counts are small. -/
def Small (c : List Int) (B : Int) : Prop := ∀ g, 0 ≤ nth c g ∧ nth c g ≤ B
theorem Small.bump {c : List Int} {B : Int} (h : Small c B) (hB : 0 ≤ B) (q : Nat) : Small (bump c q) (B + 1) := by
  intro g
  have := h g
  have h2 := h q
  rw [Go.AM.bump, nth_set]
  split <;> omega
theorem Small.cntF {l : List Int} {x : Int} : ∀ {k j : Nat} {c : List Int} {B : Int}, Small c B → 0 ≤ B → Small (cntF l x k j c) (B + k)
  | 0, _, _, _, h, _ => by simpa [Go.Proofs.Ytpghadmpegncgaa.cntF] using h
  | k + 1, j, c, B, h, hB => by
    rw [cntF_succ]
    have := (h.bump hB (x - nth l j).toNat).cntF (l := l) (x := x) (k := k) (j := j + 1) (by omega)
    rwa [show B + 1 + (k : Int) = B + ((k + 1 : Nat) : Int) by omega] at this

/-- What a strap's counting keeps. -/
def top (l : List Int) : Int := nth l (l.length - 1)
def counts (l : List Int) : List Int := cntO l l.length 0 (List.replicate (top l + 1).toNat 0)
theorem top_wrap {l : List Int} (s : StrapOk l) : IntKind.wrap .i64 (nth l (l.length - 1) + 1) = nth l (l.length - 1) + 1 := by
  have hpos := s.pos
  have := s.nonneg (i := l.length - 1) (by omega)
  have := s.top
  exact wrap_id (by omega) (by omega)
theorem nth_take {l : List Int} {i j : Nat} (h : j < i) : nth (l.take i) j = nth l j := by simp [nth, List.getD, List.getElem?_take, h]
theorem cn_in {v : AV} {l : List Int} (hv : IsInts v l) (s : StrapOk l) {i : Nat} (hi : i < l.length) {w : AV} (hw0 : IsInts w (l.take i)) (oid : Nat) (K : List Item) : ∀ (k j : Nat) (c : List Int) (m : Mem), j + k = i → m.h oid = some (.cells (ints c)) → c.length = (top l + 1).toNat → Small c (1000000 + j) →
    ∃ m', m'.h oid = some (.cells (ints (cntF l (nth l i) k j c))) ∧ strap_counts.L2 v (.sl oid 1 0 c.length c.length) (.int .i64 (nth l i)) v (.int .i64 l.length) (.int .i64 i) w (.int .i64 i) (.int .i64 j) m (.inBlock 1 :: .code strap_counts.r10 :: .inLoop strap_counts.l0 :: .inBlock 0 :: K) = strap_counts.L0 v (.sl oid 1 0 c.length c.length) v (.int .i64 l.length) (.int .i64 ((i : Int) + 1)) m' K := by
  intro k
  have hfew := s.few
  induction k with
  | zero =>
    intro j c m h1 hm hc hs
    have e : j = i := by omega
    subst e
    have hw : IntKind.wrap .i64 ((j : Int) + 1) = (j : Int) + 1 := wrap_id (by omega) (by omega)
    refine ⟨m, hm, ?_⟩
    rw [strap_counts.L2_eq]
    simp [hw]
    done
  | succ k ih =>
    intro j c m h1 hm hc hs
    have hj : j < i := by omega
    have hj' : j < l.length := by omega
    have hjt : j < (l.take i).length := by simp; omega
    have hix := hw0.idx hjt .i64
    have hih := ints_head hjt
    rw [nth_take hj] at hih
    have hw : IntKind.wrap .i64 ((j : Int) + 1) = (j : Int) + 1 := wrap_id (by omega) (by omega)
    have a1 := s.lt hj hi
    have a2 := s.nonneg hj'
    have a3 := s.le (show i ≤ l.length - 1 by omega) (by omega)
    have a4 := s.most hi
    obtain ⟨d, hd⟩ : ∃ d : Nat, nth l i - nth l j = d := ⟨(nth l i - nth l j).toNat, by omega⟩
    have hwd : IntKind.wrap .i64 (nth l i - nth l j) = (d : Int) := by rw [hd, wrap_id (by omega) (by omega)]
    have hdl : d < c.length := by rw [hc]; unfold top; omega
    have hs2 := hs d
    have hwc : IntKind.wrap .i64 (nth c d + 1) = nth c d + 1 := wrap_id (by omega) (by omega)
    have hst := fun m hm => ih (j + 1) (bump c d) m (by omega) hm (by rw [bump_len, hc]) (by have := hs.bump (by omega) d; rwa [show (1000000 + (j : Int) + 1) = 1000000 + ((j + 1 : Nat) : Int) by omega] at this)
    rw [bump_len] at hst
    simp only [Int.natCast_add, Int.cast_ofNat_Int] at hst
    have hc' : c.set d (nth c d + 1) = bump c d := rfl
    obtain ⟨m', g1, g2⟩ := hst ⟨upd m.h oid (some (.cells (ints (bump c d)))), m.nx⟩ (by simp)
    refine ⟨m', by rw [cntF_succ, hd]; exact g1, ?_⟩
    rw [strap_counts.L2_eq]
    simp [hj, hix, hih, hwd, hdl, hm, hwc, hw, hc', g2]
    done
theorem cn_out {v : AV} {l : List Int} (hv : IsInts v l) (s : StrapOk l) (oid : Nat) : ∀ (k i : Nat) (c : List Int) (m : Mem), i + k = l.length → m.h oid = some (.cells (ints c)) → c.length = (top l + 1).toNat → Small c (1000 * i) →
    strap_counts.L0 v (.sl oid 1 0 c.length c.length) v (.int .i64 l.length) (.int .i64 i) m [.code strap_counts.r11, .code .ret] = some (intsV (cntO l k i c), Mem.empty) := by
  intro k
  have hfew := s.few
  have hpos := s.pos
  induction k with
  | zero =>
    intro i c m h1 hm hc hs
    have e : i = l.length := by omega
    subst e
    have ht : 0 ≤ top l := s.nonneg (by omega)
    have hne : c ≠ [] := by intro e; rw [e] at hc; simp at hc; omega
    rw [strap_counts.L0_eq]
    simp [hv.len, intsV, hne, cntO, hm]
    done
  | succ k ih =>
    intro i c m h1 hm hc hs
    have hi : i < l.length := by omega
    have hw : IntKind.wrap .i64 ((i : Int) + 1) = (i : Int) + 1 := wrap_id (by omega) (by omega)
    obtain ⟨w, hw1, hw2⟩ := slice_ints hv (j := (i : Int)) (by omega) (by omega)
    rw [Int.toNat_natCast] at hw2
    have hwl := hw2.len
    rw [List.length_take, show min i l.length = i by omega] at hwl
    obtain ⟨m', g1, g2⟩ := cn_in hv s hi hw2 oid [.code strap_counts.r11, .code .ret] i 0 c m (by omega) hm hc (fun g => by have := hs g; omega)
    simp only [Int.ofNat_zero, Int.cast_ofNat_Int] at g2
    have hst := ih (i + 1) (cntF l (nth l i) i 0 c) m' (by omega) g1 (by rw [cntF_len, hc]) (by
      have := hs.cntF (l := l) (x := nth l i) (k := i) (j := 0) (by omega)
      intro g; have := this g; omega)
    simp only [Int.natCast_add, Int.cast_ofNat_Int, cntF_len] at hst
    rw [strap_counts.L0_eq]
    simp [hv.len, hi, hv.idx hi, ints_head hi, hw1, hwl, g2, hst, cntO_succ]
    done
theorem counts_spec {v : AV} {l : List Int} (hv : IsInts v l) (s : StrapOk l) (m : Mem) : denC prog ann 50 [v] m = some (intsV (counts l), m) := by
  have hcl : closedL [v] = true := by simp [hv.closed]
  have hpos := s.pos
  have hfew := s.few
  rw [strap_counts.call_eq _ _ hcl]
  have hlast : l.length - 1 < l.length := by omega
  have hw1 : IntKind.wrap .i64 ((l.length : Int) - 1) = ((l.length - 1 : Nat) : Int) := by rw [wrap_id (by omega) (by omega)]; omega
  have t0 : 0 ≤ top l := s.nonneg (by omega)
  have t1 : top l ≤ 1000 := s.top
  obtain ⟨t, ht⟩ : ∃ t : Nat, top l = t := ⟨(top l).toNat, by omega⟩
  have htw := top_wrap s
  have e : (top l + 1).toNat = t + 1 := by omega
  unfold top at ht
  rw [ht] at htw
  have lp := cn_out hv s 0 l.length 0 (List.replicate (t + 1) 0) ⟨upd Mem.empty.h 0 (some (.cells (List.replicate (t + 1) (AV.int .i64 0)))), 1⟩ (by omega) (by simp [ints]) (by simp [e]) (fun g => by rw [nth_zero']; omega)
  simp only [Int.ofNat_zero, Int.cast_ofNat_Int, List.length_replicate] at lp
  rw [counts, e]
  simp [hv.len, hw1, hv.idx hlast, ints_head hlast, ht, htw, show (0 : Int) ≤ (t : Int) + 1 by omega, show t ≤ 4611686018427387903 by omega, show (t + 1) * 8 ≤ 70368744177664 by omega, lp]
  done
/-- Distances. -/
theorem dist_spec {v : AV} {l : List Int} (hv : IsInts v l) {e : Int} (he : StrapErr l e) (hc : ∀ m, denC prog ann 52 [v] m = some (.int .i64 e, m)) : ∃ w, (e = 0 → IsInts w (counts l)) ∧ (e ≠ 0 → w = .nils) ∧ ∀ m, denC prog ann 22 [v] m = some (.tup [w, .int .i64 e], m) := by
  have hcl : closedL [v] = true := by simp [hv.closed]
  by_cases q : e = 0
  · have s : StrapOk l := by cases he <;> first | assumption | (exact absurd q (by decide))
    refine ⟨intsV (counts l), fun _ => intsV_is _, fun h => absurd q h, fun m => ?_⟩
    rw [strap_Distances.call_eq _ _ hcl]
    simp [hc, q, hv.closed, counts_spec hv s, (intsV_is (counts l)).deep]
    done
  · refine ⟨.nils, fun h => absurd h q, fun _ => rfl, fun m => ?_⟩
    rw [strap_Distances.call_eq _ _ hcl]
    simp [hc, q, hv.closed]
    done
end Go.Proofs.Ytpghadmpegncgaa

/-
  STRAPS (3): the distances that a strap lacks. Conditions: none.
-/
namespace Go.Proofs.Ytpghadmpegncgaa
open Go.AM
open Go.Proofs.Try (prog)
set_option linter.all false
set_option maxRecDepth 100000
set_option maxHeartbeats 4000000

theorem cntO_len (l : List Int) : ∀ (k i : Nat) (c : List Int), (cntO l k i c).length = c.length
  | 0, _, _ => rfl
  | k + 1, i, c => by rw [cntO_succ, cntO_len, cntF_len]
theorem counts_len (l : List Int) : (counts l).length = (top l + 1).toNat := by rw [counts, cntO_len, List.length_replicate]
theorem counts_few {l : List Int} (s : StrapOk l) : (counts l).length ≤ 1001 := by
  rw [counts_len]; have := s.top; unfold top; omega
def missL (c : List Int) (k i : Nat) : List Int := ((List.range' i k).filter fun d => decide (0 < d) && decide (nth c d = 0)).map fun d : Nat => (d : Int)
theorem missL_succ (c : List Int) (k i : Nat) : missL c (k + 1) i = if 0 < i ∧ nth c i = 0 then (i : Int) :: missL c k (i + 1) else missL c k (i + 1) := by
  simp only [missL, List.range'_succ, List.filter_cons]
  by_cases h : 0 < i ∧ nth c i = 0 <;> simp [h]

theorem miss_loop {w : AV} {c : List Int} (hw0 : IsInts w c) (hcl : c.length ≤ 1001) : ∀ (k i oid : Nat) (acc : List Int) (m : Mem), i + k = c.length → OutI m oid acc → acc.length ≤ i →
    strap_Misses.L0 (outI oid acc) w (.int .i64 c.length) (.int .i64 i) m [.code strap_Misses.r11, .code .ret] = some (.tup [intsV (acc ++ missL c k i), .int .i64 0], Mem.empty) := by
  intro k
  induction k with
  | zero =>
    intro i oid acc m h1 ho ha
    have e : i = c.length := by omega
    subst e
    have hd := outI_deep ho
    rw [strap_Misses.L0_eq]
    simp [missL, hd]
    done
  | succ k ih =>
    intro i oid acc m h1 ho ha
    have hi : i < c.length := by omega
    have hw : IntKind.wrap .i64 ((i : Int) + 1) = (i : Int) + 1 := wrap_id (by omega) (by omega)
    by_cases q1 : 0 < i
    · by_cases q2 : nth c i = 0
      · obtain ⟨oid', m', g1, g2, g3, _⟩ := outI_appT ho (by omega) (i : Int)
        have hst := ih (i + 1) oid' (acc ++ [(i : Int)]) m' (by omega) g2 (by simp; omega)
        simp only [Int.natCast_add, Int.cast_ofNat_Int] at hst
        rw [missL_succ, if_pos ⟨q1, q2⟩, strap_Misses.L0_eq]
        simp [hi, hw0.idx hi, ints_head hi, q1, q2, g1, hw, hst]
        done
      · have hst := ih (i + 1) oid acc m (by omega) ho (by omega)
        simp only [Int.natCast_add, Int.cast_ofNat_Int] at hst
        rw [missL_succ, if_neg (fun h => q2 h.2), strap_Misses.L0_eq]
        simp [hi, hw0.idx hi, ints_head hi, q1, q2, hw, hst]
        done
    · have hst := ih (i + 1) oid acc m (by omega) ho (by omega)
      simp only [Int.natCast_add, Int.cast_ofNat_Int] at hst
      rw [missL_succ, if_neg (fun h => q1 h.1), strap_Misses.L0_eq]
      simp [hi, hw0.idx hi, ints_head hi, q1, hw, hst]
      done
def misses (l : List Int) : List Int := missL (counts l) (counts l).length 0
theorem miss_spec {v : AV} {l : List Int} (hv : IsInts v l) {e : Int} (he : StrapErr l e) (hc : ∀ m, denC prog ann 52 [v] m = some (.int .i64 e, m)) : ∃ w, (e = 0 → IsInts w (misses l)) ∧ (e ≠ 0 → w = .nils) ∧ ∀ m, denC prog ann 23 [v] m = some (.tup [w, .int .i64 e], m) := by
  have hcl : closedL [v] = true := by simp [hv.closed]
  by_cases q : e = 0
  · have s : StrapOk l := by cases he <;> first | assumption | (exact absurd q (by decide))
    refine ⟨intsV (misses l), fun _ => intsV_is _, fun h => absurd q h, fun m => ?_⟩
    have hw0 := intsV_is (counts l)
    have lp := miss_loop hw0 (counts_few s) (counts l).length 0 0 [] Mem.empty (by omega) (fun h => absurd rfl h) (Nat.le_refl _)
    simp only [Int.ofNat_zero, Int.cast_ofNat_Int, List.nil_append] at lp
    rw [show outI 0 [] = .nils from rfl] at lp
    rw [strap_Misses.call_eq _ _ hcl]
    simp [hc, q, hv.closed, counts_spec hv s, hw0.len, lp, misses]
    done
  · refine ⟨.nils, fun h => absurd h q, fun _ => rfl, fun m => ?_⟩
    rw [strap_Misses.call_eq _ _ hcl]
    simp [hc, q, hv.closed]
    done
end Go.Proofs.Ytpghadmpegncgaa

/-
  BODIES OF FUNCTIONS OF THE PROGRAM AS SMALL OPERATIONS (written by gen.py; checked by the kernel against the program). Conditions: none.
-/
namespace Go.Proofs.Ytpghadmpegncgaa
open Go.AM
open Go.Proofs.Try (prog)
set_option maxRecDepth 100000
set_option linter.all false




end Go.Proofs.Ytpghadmpegncgaa

/-
  STRAPS (4): the first distance that comes twice. Conditions: none.
-/
namespace Go.Proofs.Ytpghadmpegncgaa
open Go.AM
open Go.Proofs.Try (prog)
set_option linter.all false
set_option maxRecDepth 100000
set_option maxHeartbeats 4000000

def fstL (p : Nat → Bool) (k i : Nat) : Int := match (List.range' i k).find? p with | some d => (d : Int) | none => -1
theorem fstL_succ (p : Nat → Bool) (k i : Nat) : fstL p (k + 1) i = if p i = true then (i : Int) else fstL p k (i + 1) := by
  unfold fstL
  rw [List.range'_succ, List.find?_cons]
  cases h : p i <;> simp
def moreP (c : List Int) (d : Nat) : Bool := decide (1 < nth c d)
theorem more_spec (x : Int) (m : Mem) : denC prog ann 54 [.int .i64 x] m = some (.bool (decide (1 < x)), m) := by
  rw [strap_Twice_1.call_eq _ _ rfl]
  simp
  done
theorem ix_loop {w : AV} {c : List Int} (hw0 : IsInts w c) (hcl : c.length ≤ 1001) (m : Mem) : ∀ (k i : Nat), i + k = c.length →
    slices_IndexFunc_int.L0 w (.fn 54 [] []) (.int .i64 c.length) (.int .i64 i) m [.code slices_IndexFunc_int.r7, .code .ret] = some (.int .i64 (fstL (moreP c) k i), m) := by
  intro k
  induction k with
  | zero =>
    intro i h1
    have e : i = c.length := by omega
    subst e
    rw [slices_IndexFunc_int.L0_eq]
    simp [fstL]
    done
  | succ k ih =>
    intro i h1
    have hi : i < c.length := by omega
    have hw : IntKind.wrap .i64 ((i : Int) + 1) = (i : Int) + 1 := wrap_id (by omega) (by omega)
    have hst := ih (i + 1) (by omega)
    simp only [Int.natCast_add, Int.cast_ofNat_Int] at hst
    rw [fstL_succ, slices_IndexFunc_int.L0_eq]
    by_cases q : 1 < nth c i
    · rw [moreP, decide_eq_true q, if_pos rfl]
      simp [hi, hw0.idx hi, ints_head hi, more_spec, q]
      done
    · rw [moreP, decide_eq_false q, if_neg (by decide)]
      simp [hi, hw0.idx hi, ints_head hi, more_spec, q, hw, hst]
      done
theorem ix_spec {w : AV} {c : List Int} (hw0 : IsInts w c) (hcl : c.length ≤ 1001) (m : Mem) : denC prog ann 53 [w, .fn 54 [] []] m = some (.int .i64 (fstL (moreP c) c.length 0), m) := by
  have lp := ix_loop hw0 hcl m c.length 0 (by omega)
  simp only [Int.ofNat_zero, Int.cast_ofNat_Int] at lp
  rw [slices_IndexFunc_int.call_eq]
  simp [hw0.len, lp]
  done
theorem id_loop {w : AV} {c : List Int} (hw0 : IsInts w c) (hcl : c.length ≤ 1001) (x : Int) (m : Mem) : ∀ (k i : Nat), i + k = c.length →
    slices_Index_int.L0 w (.int .i64 x) (.int .i64 c.length) (.int .i64 i) m [.code slices_Index_int.r7, .code .ret] = some (.int .i64 (fstL (fun i => decide (x = nth c i)) k i), Mem.empty) := by
  intro k
  induction k with
  | zero =>
    intro i h1
    have e : i = c.length := by omega
    subst e
    rw [slices_Index_int.L0_eq]
    simp [fstL]
    done
  | succ k ih =>
    intro i h1
    have hi : i < c.length := by omega
    have hw : IntKind.wrap .i64 ((i : Int) + 1) = (i : Int) + 1 := wrap_id (by omega) (by omega)
    have hst := ih (i + 1) (by omega)
    simp only [Int.natCast_add, Int.cast_ofNat_Int] at hst
    rw [fstL_succ, slices_Index_int.L0_eq]
    by_cases q : x = nth c i
    · rw [decide_eq_true q, if_pos rfl]
      simp [hi, hw0.idx hi, ints_head hi, q]
      done
    · rw [decide_eq_false q, if_neg (by decide)]
      simp [hi, hw0.idx hi, ints_head hi, q, hw, hst]
      done
theorem fstL_mem (c : List Int) (x : Int) : decide (0 ≤ fstL (fun i => decide (x = nth c i)) c.length 0) = decide (x ∈ c) := by
  unfold fstL
  cases h : (List.range' 0 c.length).find? (fun i => decide (x = nth c i)) with
  | some d =>
    have h1 := List.find?_some h
    have h2 := List.mem_of_find?_eq_some h
    simp [List.mem_range'_1] at h1 h2
    have : x ∈ c := by rw [h1, ← nth_get h2]; exact List.getElem_mem h2
    simp [this]
  | none =>
    have h1 := List.find?_eq_none.1 h
    have : ¬ x ∈ c := fun hx => by
      obtain ⟨i, hi, e⟩ := List.getElem_of_mem hx
      rw [nth_get hi] at e
      exact h1 i (by simp [List.mem_range'_1, hi]) (by simp [e])
    simp [this]
theorem has_spec {w : AV} {c : List Int} (hw0 : IsInts w c) (hcl : c.length ≤ 1001) (x : Int) (m : Mem) : denC prog ann 49 [w, .int .i64 x] m = some (.bool (decide (x ∈ c)), m) := by
  have hcl2 : closedL [w, .int .i64 x] = true := by simp [hw0.closed]
  have lp := id_loop hw0 hcl x Mem.empty c.length 0 (by omega)
  simp only [Int.ofNat_zero, Int.cast_ofNat_Int] at lp
  have h67 : ∀ m, denC prog ann 67 [w, .int .i64 x] m = some (.int .i64 (fstL (fun i => decide (x = nth c i)) c.length 0), m) := fun m => by
    rw [slices_Index_int.call_eq _ _ _ hcl2]
    simp [hw0.len, lp]
    done
  rw [slices_Contains_int.call_eq _ _ _ hcl2]
  simp [hw0.closed, h67, fstL_mem]
  done

def twStep (l : List Int) (d : Nat) (acc : List Int) (a : Int) : List Int := if acc.length < 4 ∧ a + (d : Int) ∈ l then acc ++ [a, a + (d : Int)] else acc
theorem tw_loop {v : AV} {l : List Int} (hv : IsInts v l) (s : StrapOk l) (d : Nat) (hd : d ≤ 1001) : ∀ (k i oid : Nat) (acc : List Int) (m : Mem), i + k = l.length → OutI m oid acc → acc.length ≤ 2 * i →
    strap_Twice.L0 v (.int .i64 d) (outI oid acc) v (.int .i64 l.length) (.int .i64 i) m [.code strap_Twice.r14, .code .ret] = some (.tup [intsV ((l.drop i).foldl (twStep l d) acc), .int .i64 0], Mem.empty) := by
  have hfew := s.few
  intro k
  induction k with
  | zero =>
    intro i oid acc m h1 ho ha
    have e : i = l.length := by omega
    subst e
    have hd := outI_deep ho
    rw [strap_Twice.L0_eq]
    simp [hd]
    done
  | succ k ih =>
    intro i oid acc m h1 ho ha
    have hi : i < l.length := by omega
    have hw : IntKind.wrap .i64 ((i : Int) + 1) = (i : Int) + 1 := wrap_id (by omega) (by omega)
    have a1 := s.nonneg hi
    have a2 := s.most hi
    have hwd : IntKind.wrap .i64 (nth l i + (d : Int)) = nth l i + (d : Int) := wrap_id (by omega) (by omega)
    have hlen : lenSl (outI oid acc) = some (.int .i64 acc.length) := by
      by_cases e : acc = []
      · simp [outI, e]
      · simp [outI, e]
    have hh := fun m => has_spec hv (by omega) (nth l i + (d : Int)) m
    rw [drop_nth hi, List.foldl_cons]
    by_cases q1 : acc.length < 4
    · have q1' : (acc.length : Int) < 4 := by omega
      by_cases q2 : nth l i + (d : Int) ∈ l
      · obtain ⟨oid', m', g1, g2, g3⟩ := outI_app2 ho (by omega) (nth l i) (nth l i + (d : Int))
        have hst := ih (i + 1) oid' (acc ++ [nth l i, nth l i + (d : Int)]) m' (by omega) g2 (by simp; omega)
        simp only [Int.natCast_add, Int.cast_ofNat_Int] at hst
        rw [twStep, if_pos ⟨q1, q2⟩, strap_Twice.L0_eq]
        simp [hi, hv.idx hi, ints_head hi, hlen, q1', hwd, hv.closed, hh, q2, g1, hw, hst]
        done
      · have hst := ih (i + 1) oid acc m (by omega) ho (by omega)
        simp only [Int.natCast_add, Int.cast_ofNat_Int] at hst
        rw [twStep, if_neg (fun h => q2 h.2), strap_Twice.L0_eq]
        simp [hi, hv.idx hi, ints_head hi, hlen, q1', hwd, hv.closed, hh, q2, hw, hst]
        done
    · have q1' : ¬ (acc.length : Int) < 4 := by omega
      have hst := ih (i + 1) oid acc m (by omega) ho (by omega)
      simp only [Int.natCast_add, Int.cast_ofNat_Int] at hst
      rw [twStep, if_neg (fun h => q1 h.1), strap_Twice.L0_eq]
      simp [hi, hv.idx hi, ints_head hi, hlen, q1', hw, hst]
      done

/-- What Twice hands back. -/
inductive TwRes (l : List Int) : AV → Int → Int → Prop where
  | bad {e : Int} (h : e ≠ 0) : TwRes l .nils e e
  | none (s : StrapOk l) (h : fstL (moreP (counts l)) (counts l).length 0 < 0) : TwRes l .nils 0 5
  | ok {w : AV} {d : Nat} (s : StrapOk l) (h : fstL (moreP (counts l)) (counts l).length 0 = d) (i : IsInts w (l.foldl (twStep l d) [])) : TwRes l w 0 0
theorem fstL_lt (p : Nat → Bool) (n : Nat) : fstL p n 0 < n := by
  unfold fstL
  cases h : (List.range' 0 n).find? p with
  | some d =>
    have h2 := List.mem_of_find?_eq_some h
    simp [List.mem_range'_1] at h2
    show (d : Int) < n
    omega
  | none => show (-1 : Int) < n; omega
theorem tw_spec {v : AV} {l : List Int} (hv : IsInts v l) {e : Int} (he : StrapErr l e) (hc : ∀ m, denC prog ann 52 [v] m = some (.int .i64 e, m)) : ∃ w g, TwRes l w e g ∧ ∀ m, denC prog ann 24 [v] m = some (.tup [w, .int .i64 g], m) := by
  have hcl : closedL [v] = true := by simp [hv.closed]
  by_cases q : e = 0
  · have s : StrapOk l := by cases he <;> first | assumption | (exact absurd q (by decide))
    subst q
    have hw0 := intsV_is (counts l)
    have hix := fun m => ix_spec hw0 (counts_few s) m
    have hlt := fstL_lt (moreP (counts l)) (counts l).length
    have hfew := counts_few s
    by_cases q2 : fstL (moreP (counts l)) (counts l).length 0 < 0
    · refine ⟨_, _, .none s q2, fun m => ?_⟩
      rw [strap_Twice.call_eq _ _ hcl]
      simp [hc, hv.closed, counts_spec hv s, hix, q2]
      done
    · obtain ⟨d, hd⟩ : ∃ d : Nat, fstL (moreP (counts l)) (counts l).length 0 = d := ⟨(fstL (moreP (counts l)) (counts l).length 0).toNat, by omega⟩
      have lp := fun m => tw_loop hv s d (by omega) l.length 0 0 [] m (by omega) (fun h => absurd rfl h) (Nat.le_refl _)
      simp only [Int.ofNat_zero, Int.cast_ofNat_Int, List.drop_zero] at lp
      rw [show outI 0 [] = .nils from rfl] at lp
      refine ⟨_, _, .ok s hd (intsV_is _), fun m => ?_⟩
      rw [strap_Twice.call_eq _ _ hcl]
      simp [hc, hv.closed, counts_spec hv s, hix, hd, hv.len, lp]
      done
  · refine ⟨_, _, .bad q, fun m => ?_⟩
    rw [strap_Twice.call_eq _ _ hcl]
    simp [hc, q, hv.closed]
    done

end Go.Proofs.Ytpghadmpegncgaa

/-
  WHAT AN INPUT'S VALUE IS; equality of lists with nothing, and of truth values. Conditions: none.
-/
namespace Go.Proofs.Ytpghadmpegncgaa
open Go.AM
open Go.Proofs.Try (prog)
set_option linter.all false
set_option maxRecDepth 100000
theorem u4 : prog.underlying 4 = some .bool := by kernel_rfl
theorem u22 : prog.underlying 22 = some (.slice 3) := by kernel_rfl
@[simp] theorem eql_nils : binA prog .eql 22 .nils .nils = some (.bool true) := by simp [binA, eqT, eqA, u22]
@[simp] theorem neq_nils : binA prog .neq 22 .nils .nils = some (.bool false) := by simp [binA, eqT, eqA, u22]
@[simp] theorem eql_fsl (ex : Bool) (n : Nat) (cs : List AV) : binA prog .eql 22 (.fsl ex n cs) .nils = some (.bool false) := by simp [binA, eqT, eqA, u22]
@[simp] theorem neq_fsl (ex : Bool) (n : Nat) (cs : List AV) : binA prog .neq 22 (.fsl ex n cs) .nils = some (.bool true) := by simp [binA, eqT, eqA, u22]
@[simp] theorem eql_bool (a b : Bool) : binA prog .eql 4 (.bool a) (.bool b) = some (.bool (a == b)) := by simp [binA, eqT, eqA, u4]

/-! ### Bytes -/
theorem u5 : prog.underlying 5 = some (.int .u8) := by kernel_rfl
theorem u37 : prog.underlying 37 = some (.slice 5) := by kernel_rfl
def byteC (n : Int) : List AV := [.int .u8 n]
theorem byteC_len (l : List Int) : ∀ a ∈ l, (byteC a).length = 1 := fun _ _ => rfl
theorem dat5 {d : Nat} {cs : List AV} (h : Dat prog (d + 1) 5 cs) : ∃ n, cs = byteC n ∧ 0 ≤ n ∧ n ≤ 255 := by
  simp only [Dat, u5] at h
  obtain ⟨n, rfl, hw⟩ := h
  refine ⟨n, rfl, ?_⟩
  simp only [Lit.wf, Bool.and_eq_true, decide_eq_true_eq] at hw
  have e1 : IntKind.min .u8 = 0 := by decide
  have e2 : IntKind.max .u8 = 255 := by decide
  rw [e1, e2] at hw
  exact hw
theorem parts_list2 {α : Type} (f : α → List AV) (Q : α → Prop) : ∀ (parts : List (List AV)), (∀ p ∈ parts, ∃ a, p = f a ∧ Q a) → ∃ l : List α, l.length = parts.length ∧ parts.flatten = flatC f l ∧ ∀ a ∈ l, Q a
  | [], _ => ⟨[], rfl, rfl, fun _ h => by cases h⟩
  | p :: ps, h => by
    obtain ⟨a, e, q⟩ := h p (by simp)
    obtain ⟨l, h1, h2, h3⟩ := parts_list2 f Q ps (fun q hq => h q (by simp [hq]))
    refine ⟨a :: l, by simp [h1], by rw [List.flatten_cons, flatC_cons, e, h2], fun x hx => ?_⟩
    rcases List.mem_cons.1 hx with rfl | hx
    · exact q
    · exact h3 x hx
theorem datV37 {d : Nat} {a : AV} (h : DatV prog (d + 2) 37 a) : ∃ l, IsSl byteC a l ∧ (l.length : Int) ≤ 9223372036854775807 ∧ ∀ x ∈ l, 0 ≤ x ∧ x ≤ 255 := by
  simp only [DatV, u37] at h
  rw [Dat] at h
  simp only [u37] at h
  rcases h with h | ⟨parts, h, hl, hp⟩
  · simp at h; subst h
    exact ⟨[], .inl ⟨rfl, rfl⟩, by simp, fun _ h => by cases h⟩
  · simp at h; subst h
    obtain ⟨l, h1, h2, h3⟩ := parts_list2 byteC (fun n => 0 ≤ n ∧ n ≤ 255) parts (fun p hq => dat5 (hp p hq).2)
    refine ⟨l, .inr ⟨false, by rw [h1, h2]⟩, ?_, h3⟩
    have : maxLen = 9223372036854775807 := by decide
    omega
end Go.Proofs.Ytpghadmpegncgaa

/-
  STRAPS (5): the specification's four loops. Conditions: none.
-/
namespace Go.Proofs.Ytpghadmpegncgaa
open Go.AM
open Go.Proofs.Try (prog)
set_option linter.all false
set_option maxRecDepth 100000
set_option maxHeartbeats 8000000

/-- The best four so far: none, or four. -/
def bestV (b : List Int) : AV := if b = [] then .nils else .fsl true b.length (ints b)
def twC (b q : List Int) : Bool := decide (b = []) || (decide (nth q 1 - nth q 0 < nth b 1 - nth b 0) || (decide (nth q 1 - nth q 0 = nth b 1 - nth b 0) && lexLt [nth q 0, nth q 2] [nth b 0, nth b 2]))
def twQ (l : List Int) (i j m n : Nat) : List Int := [nth l i, nth l j, nth l m, nth l n]
def tw7 (l : List Int) (i j m n : Nat) (b : List Int) : List Int := if nth l j - nth l i = nth l n - nth l m then (if twC b (twQ l i j m n) = true then twQ l i j m n else b) else b
def tw6 (l : List Int) (i j m k n : Nat) (b : List Int) : List Int := (List.range' n k).foldl (fun b n => tw7 l i j m n b) b
def tw4 (l : List Int) (i j k m : Nat) (b : List Int) : List Int := (List.range' m k).foldl (fun b m => tw6 l i j m (l.length - (m + 1)) (m + 1) b) b
def tw2 (l : List Int) (i k j : Nat) (b : List Int) : List Int := (List.range' j k).foldl (fun b j => tw4 l i j (l.length - (i + 1)) (i + 1) b) b
def tw0 (l : List Int) (k i : Nat) (b : List Int) : List Int := (List.range' i k).foldl (fun b i => tw2 l i (l.length - (i + 1)) (i + 1) b) b
theorem tw6_succ (l : List Int) (i j m k n : Nat) (b : List Int) : tw6 l i j m (k + 1) n b = tw6 l i j m k (n + 1) (tw7 l i j m n b) := by simp [tw6, List.range'_succ]
theorem tw4_succ (l : List Int) (i j k m : Nat) (b : List Int) : tw4 l i j (k + 1) m b = tw4 l i j k (m + 1) (tw6 l i j m (l.length - (m + 1)) (m + 1) b) := by simp [tw4, List.range'_succ]
theorem tw2_succ (l : List Int) (i k j : Nat) (b : List Int) : tw2 l i (k + 1) j b = tw2 l i k (j + 1) (tw4 l i j (l.length - (i + 1)) (i + 1) b) := by simp [tw2, List.range'_succ]
theorem tw0_succ (l : List Int) (k i : Nat) (b : List Int) : tw0 l (k + 1) i b = tw0 l k (i + 1) (tw2 l i (l.length - (i + 1)) (i + 1) b) := by simp [tw0, List.range'_succ]
/-- The best is none, or four holes. -/
def Fit (b : List Int) : Prop := b = [] ∨ ∃ p q r t : Int, b = [p, q, r, t] ∧ (0 ≤ p ∧ p ≤ 1000) ∧ (0 ≤ q ∧ q ≤ 1000) ∧ 0 ≤ r ∧ r ≤ 1000
theorem Fit.step {l : List Int} (s : StrapOk l) {b : List Int} (h : Fit b) {i j m n : Nat} (hi : i < l.length) (hj : j < l.length) (hm : m < l.length) : Fit (tw7 l i j m n b) := by
  unfold tw7
  split
  · split
    · exact .inr ⟨_, _, _, _, rfl, ⟨s.nonneg hi, s.most hi⟩, ⟨s.nonneg hj, s.most hj⟩, s.nonneg hm, s.most hm⟩
    · exact h
  · exact h
theorem Fit.six {l : List Int} (s : StrapOk l) {i j m : Nat} (hi : i < l.length) (hj : j < l.length) (hm : m < l.length) : ∀ {k n : Nat} {b : List Int}, Fit b → Fit (tw6 l i j m k n b)
  | 0, _, _, h => h
  | k + 1, n, b, h => by rw [tw6_succ]; exact (h.step s hi hj hm).six s hi hj hm
theorem Fit.four {l : List Int} (s : StrapOk l) {i j : Nat} (hi : i < l.length) (hj : j < l.length) : ∀ {k m : Nat} {b : List Int}, m + k ≤ l.length → Fit b → Fit (tw4 l i j k m b)
  | 0, _, _, _, h => h
  | k + 1, m, b, hk, h => by rw [tw4_succ]; exact (h.six s hi hj (by omega)).four s hi hj (by omega)
theorem Fit.two {l : List Int} (s : StrapOk l) {i : Nat} (hi : i < l.length) : ∀ {k j : Nat} {b : List Int}, j + k ≤ l.length → Fit b → Fit (tw2 l i k j b)
  | 0, _, _, _, h => h
  | k + 1, j, b, hk, h => by rw [tw2_succ]; exact (h.four s hi (by omega) (by omega)).two s hi (by omega)

end Go.Proofs.Ytpghadmpegncgaa

/-
  STRAPS (6): how often each distance comes, in plain terms. Conditions: none.
-/
namespace Go.Proofs.Ytpghadmpegncgaa
open Go.AM
set_option linter.all false
set_option maxRecDepth 10000
set_option maxHeartbeats 2000000

theorem cntF_nth {l : List Int} {x : Int} : ∀ {k j : Nat} {c : List Int}, (∀ q, j ≤ q → q < j + k → 0 ≤ x - nth l q ∧ x - nth l q < c.length) → ∀ g : Nat, nth (cntF l x k j c) g = nth c g + ((List.range' j k).countP fun q => decide (nth l q = x - g) : Nat)
  | 0, j, c, _, g => by simp [cntF]
  | k + 1, j, c, h, g => by
    have h0 := h j (by omega) (by omega)
    have hb : (x - nth l j).toNat < c.length := by omega
    rw [cntF_succ, cntF_nth (fun q h1 h2 => by rw [bump_len]; exact h q (by omega) (by omega)) g, nth_bump hb, List.range'_succ, List.countP_cons]
    by_cases e : g = (x - nth l j).toNat
    · have e2 : nth l j = x - (g : Int) := by omega
      have e3 := e.symm
      simp only [if_pos e, e3, decide_eq_true e2, if_true, Int.natCast_add, Int.cast_ofNat_Int]
      omega
    · have e2 : ¬ nth l j = x - (g : Int) := by omega
      simp only [if_neg e, decide_eq_false e2, Bool.false_eq_true, if_false, Nat.add_zero]
def hit (l : List Int) (g i : Nat) : Bool := (List.range' 0 i).any fun q => decide (nth l q = nth l i - g)
theorem count_one {l : List Int} (s : StrapOk l) (y : Int) : ∀ (k j : Nat), j + k ≤ l.length → ((List.range' j k).countP fun q => decide (nth l q = y)) = if ((List.range' j k).any fun q => decide (nth l q = y)) = true then 1 else 0
  | 0, _, _ => rfl
  | k + 1, j, h => by
    have ih := count_one s y k (j + 1) (by omega)
    rw [List.range'_succ, List.countP_cons, List.any_cons]
    by_cases e : nth l j = y
    · have z : ((List.range' (j + 1) k).countP fun q => decide (nth l q = y)) = 0 := by
        rw [List.countP_eq_zero]
        intro q hq
        simp [List.mem_range'_1] at hq ⊢
        have := s.lt (show j < q by omega) (by omega)
        omega
      simp [e, z]
    · rw [ih, decide_eq_false e, Bool.false_or]; simp only [Bool.false_eq_true, if_false, Nat.add_zero]
theorem cntO_nth {l : List Int} (s : StrapOk l) : ∀ {k i : Nat} {c : List Int}, i + k ≤ l.length → c.length = (top l + 1).toNat → ∀ g : Nat, nth (cntO l k i c) g = nth c g + ((List.range' i k).countP (hit l g) : Nat)
  | 0, i, c, _, _, g => by simp [cntO]
  | k + 1, i, c, h, hc, g => by
    have hi : i < l.length := by omega
    rw [cntO_succ, cntO_nth s (by omega) (by rw [cntF_len, hc]) g, cntF_nth (fun q _ h2 => by
      have a := s.lt (show q < i by omega) hi
      have b := s.nonneg (i := q) (by omega)
      have d := s.le (show i ≤ l.length - 1 by omega) (by omega)
      unfold top at hc
      omega) g, count_one s _ i 0 (by omega), List.range'_succ, List.countP_cons]
    show _ = nth c g + ((_ + if hit l g i = true then 1 else 0 : Nat) : Int)
    unfold hit
    split <;> simp <;> omega
theorem counts_nth {l : List Int} (s : StrapOk l) (g : Nat) : nth (counts l) g = ((List.range' 0 l.length).countP (hit l g) : Nat) := by
  have := s.nonneg (i := l.length - 1) (by have := s.pos; omega)
  rw [counts, cntO_nth s (by omega) (by simp) g, nth_zero']; simp
theorem hit_zero {l : List Int} (s : StrapOk l) {i : Nat} (hi : i < l.length) : hit l 0 i = false := by
  unfold hit
  rw [List.any_eq_false]
  intro q hq
  simp [List.mem_range'_1] at hq ⊢
  have := s.lt hq hi
  omega
theorem hit_mem {l : List Int} (s : StrapOk l) {i : Nat} (hi : i < l.length) {g : Nat} (hg : 0 < g) : hit l g i = decide (nth l i - (g : Int) ∈ l) := by
  unfold hit
  rw [Bool.eq_iff_iff, List.any_eq_true, decide_eq_true_eq]
  constructor
  · rintro ⟨q, h1, h2⟩
    simp [List.mem_range'_1] at h1 h2
    rw [← h2, ← nth_get (show q < l.length by omega)]; exact List.getElem_mem _
  · intro h
    obtain ⟨q, h1, h2⟩ := List.getElem_of_mem h
    rw [nth_get h1] at h2
    refine ⟨q, ?_, by simpa using h2⟩
    simp [List.mem_range'_1]
    rcases Nat.lt_or_ge q i with h3 | h3
    · exact h3
    · have := s.le h3 h1; omega
theorem map_nth (l : List Int) : (List.range' 0 l.length).map (nth l) = l := by
  refine List.ext_getElem (by simp) fun i h1 h2 => ?_
  simp [nth_get h2]
def D (l : List Int) (g : Nat) : Nat := l.countP fun a => decide (a - (g : Int) ∈ l)
def U (l : List Int) (g : Nat) : Nat := l.countP fun a => decide (a + (g : Int) ∈ l)
theorem counts_zero {l : List Int} (s : StrapOk l) : nth (counts l) 0 = 0 := by
  rw [counts_nth s]
  have : (List.range' 0 l.length).countP (hit l 0) = 0 := by
    rw [List.countP_eq_zero]
    intro q hq
    simp [List.mem_range'_1] at hq
    rw [hit_zero s hq]; simp
  rw [this]; rfl
theorem counts_D {l : List Int} (s : StrapOk l) {g : Nat} (hg : 0 < g) : nth (counts l) g = D l g := by
  rw [counts_nth s, D]
  conv => rhs; rw [← map_nth l]
  rw [List.countP_map]
  refine congrArg _ (List.countP_congr fun i hi => ?_)
  simp [List.mem_range'_1] at hi
  rw [hit_mem s hi hg]
  simp [map_nth l]
theorem StrapOk.sorted {l : List Int} (s : StrapOk l) : l.Pairwise (· < ·) := by
  rw [List.pairwise_iff_getElem]
  intro i j h1 h2 h
  rw [nth_get h1, nth_get h2]
  exact s.lt h h2
theorem lt_nodup {l : List Int} (h : l.Pairwise (· < ·)) : l.Nodup := h.imp fun h => by omega
theorem D_U {l : List Int} (s : StrapOk l) (g : Nat) : D l g = U l g := by
  rw [D, U, List.countP_eq_length_filter, List.countP_eq_length_filter, ← List.length_map (f := fun a => a - (g : Int))]
  refine List.Perm.length_eq ((List.perm_ext_iff_of_nodup (lt_nodup ?_) (lt_nodup (s.sorted.filter _))).2 fun a => ?_)
  · exact (s.sorted.filter _).map _ fun a b h => by show a - (g : Int) < b - (g : Int); omega
  · simp only [List.mem_map, List.mem_filter, decide_eq_true_eq]
    constructor
    · rintro ⟨x, ⟨h1, h2⟩, rfl⟩
      exact ⟨h2, by rwa [show x - (g : Int) + g = x by omega]⟩
    · rintro ⟨h1, h2⟩
      exact ⟨a + g, ⟨h2, by rwa [show a + (g : Int) - g = a by omega]⟩, by omega⟩
theorem counts_U {l : List Int} (s : StrapOk l) {g : Nat} (hg : 0 < g) : nth (counts l) g = U l g := by rw [counts_D s hg, D_U s]
end Go.Proofs.Ytpghadmpegncgaa

/-
  STRAPS (7): the first four holes with one distance are those that the four loops find. Conditions: none.
-/
namespace Go.Proofs.Ytpghadmpegncgaa
open Go.AM
set_option linter.all false
set_option maxRecDepth 10000
set_option maxHeartbeats 2000000

def key (q : List Int) : List Int := [nth q 1 - nth q 0, nth q 0, nth q 2]
def Val (l : List Int) (i j m n : Nat) : Prop := nth l j - nth l i = nth l n - nth l m
theorem twC_key (b q : List Int) : twC b q = (decide (b = []) || lexLt (key q) (key b)) := by
  simp only [twC, key, lexLt]
  by_cases h : nth q 1 - nth q 0 = nth b 1 - nth b 0
  · simp [h]
  · simp [h]
/-- The best of what was seen. -/
def BestOk (l : List Int) (S : Nat → Nat → Nat → Nat → Prop) (b : List Int) : Prop :=
  (b = [] ∨ ∃ i j m n, S i j m n ∧ Val l i j m n ∧ b = twQ l i j m n) ∧ ∀ i j m n, S i j m n → Val l i j m n → b ≠ [] ∧ lexLt (key (twQ l i j m n)) (key b) = false
theorem BestOk.congr {l : List Int} {S S' : Nat → Nat → Nat → Nat → Prop} {b : List Int} (h : BestOk l S b) (e : ∀ i j m n, S i j m n ↔ S' i j m n) : BestOk l S' b := by
  have : S = S' := by funext i j m n; exact propext (e i j m n)
  rwa [← this]
theorem BestOk.step {l : List Int} {S : Nat → Nat → Nat → Nat → Prop} {b : List Int} (h : BestOk l S b) (i j m n : Nat) : BestOk l (fun i' j' m' n' => S i' j' m' n' ∨ (i' = i ∧ j' = j ∧ m' = m ∧ n' = n)) (tw7 l i j m n b) := by
  unfold tw7
  by_cases v : nth l j - nth l i = nth l n - nth l m
  · rw [if_pos v, twC_key]
    cases t : (decide (b = []) || lexLt (key (twQ l i j m n)) (key b)) with
    | true =>
      rw [if_pos rfl]
      refine ⟨.inr ⟨i, j, m, n, .inr ⟨rfl, rfl, rfl, rfl⟩, v, rfl⟩, ?_⟩
      rintro i' j' m' n' (hs | ⟨rfl, rfl, rfl, rfl⟩) v'
      · refine ⟨by simp [twQ], ?_⟩
        obtain ⟨h1, h2⟩ := h.2 i' j' m' n' hs v'
        rw [decide_eq_false h1, Bool.false_or] at t
        cases q : lexLt (key (twQ l i' j' m' n')) (key (twQ l i j m n)) with
        | false => rfl
        | true => rw [lex_trans q t] at h2; cases h2
      · exact ⟨by simp [twQ], lexLt_irr _⟩
    | false =>
      rw [if_neg (by decide)]
      simp only [Bool.or_eq_false_iff, decide_eq_false_iff_not] at t
      refine ⟨h.1.imp id (fun ⟨i', j', m', n', a, b⟩ => ⟨i', j', m', n', .inl a, b⟩), ?_⟩
      rintro i' j' m' n' (hs | ⟨rfl, rfl, rfl, rfl⟩) v'
      · exact h.2 i' j' m' n' hs v'
      · exact t
  · rw [if_neg v]
    refine ⟨h.1.imp id (fun ⟨i', j', m', n', a, b⟩ => ⟨i', j', m', n', .inl a, b⟩), ?_⟩
    rintro i' j' m' n' (hs | ⟨rfl, rfl, rfl, rfl⟩) v'
    · exact h.2 i' j' m' n' hs v'
    · exact absurd v' v
theorem BestOk.six {l : List Int} (i j m : Nat) : ∀ (k n : Nat) {S : Nat → Nat → Nat → Nat → Prop} {b : List Int}, BestOk l S b → BestOk l (fun i' j' m' n' => S i' j' m' n' ∨ (i' = i ∧ j' = j ∧ m' = m ∧ n ≤ n' ∧ n' < n + k)) (tw6 l i j m k n b)
  | 0, n, S, b, h => h.congr fun i' j' m' n' => ⟨.inl, fun h => h.elim id fun h => by omega⟩
  | k + 1, n, S, b, h => by
    rw [tw6_succ]
    refine ((h.step i j m n).six i j m k (n + 1)).congr fun i' j' m' n' => ⟨?_, ?_⟩
    · rintro ((h | h) | h)
      · exact .inl h
      · exact .inr (by omega)
      · exact .inr (by omega)
    · rintro (h | h)
      · exact .inl (.inl h)
      · by_cases e : n' = n
        · exact .inl (.inr (by omega))
        · exact .inr (by omega)
theorem BestOk.four {l : List Int} (i j : Nat) : ∀ (k m : Nat) {S : Nat → Nat → Nat → Nat → Prop} {b : List Int}, m + k ≤ l.length → BestOk l S b → BestOk l (fun i' j' m' n' => S i' j' m' n' ∨ (i' = i ∧ j' = j ∧ (m ≤ m' ∧ m' < m + k) ∧ m' < n' ∧ n' < l.length)) (tw4 l i j k m b)
  | 0, m, S, b, _, h => h.congr fun i' j' m' n' => ⟨.inl, fun h => h.elim id fun h => by omega⟩
  | k + 1, m, S, b, hk, h => by
    rw [tw4_succ]
    refine (BestOk.four i j k (m + 1) (by omega) (h.six i j m (l.length - (m + 1)) (m + 1))).congr fun i' j' m' n' => ⟨?_, ?_⟩
    · rintro ((h | h) | h)
      · exact .inl h
      · exact .inr (by omega)
      · exact .inr (by omega)
    · rintro (h | h)
      · exact .inl (.inl h)
      · by_cases e : m' = m
        · exact .inl (.inr (by omega))
        · exact .inr (by omega)
theorem BestOk.two {l : List Int} (i : Nat) (hi : i < l.length) : ∀ (k j : Nat) {S : Nat → Nat → Nat → Nat → Prop} {b : List Int}, j + k ≤ l.length → BestOk l S b → BestOk l (fun i' j' m' n' => S i' j' m' n' ∨ (i' = i ∧ (j ≤ j' ∧ j' < j + k) ∧ i < m' ∧ m' < n' ∧ n' < l.length)) (tw2 l i k j b)
  | 0, j, S, b, _, h => h.congr fun i' j' m' n' => ⟨.inl, fun h => h.elim id fun h => by omega⟩
  | k + 1, j, S, b, hk, h => by
    rw [tw2_succ]
    refine (BestOk.two i hi k (j + 1) (by omega) (h.four i j (l.length - (i + 1)) (i + 1) (by omega))).congr fun i' j' m' n' => ⟨?_, ?_⟩
    · rintro ((h | h) | h)
      · exact .inl h
      · exact .inr (by omega)
      · exact .inr (by omega)
    · rintro (h | h)
      · exact .inl (.inl h)
      · by_cases e : j' = j
        · exact .inl (.inr (by omega))
        · exact .inr (by omega)
theorem BestOk.zero {l : List Int} : ∀ (k i : Nat) {S : Nat → Nat → Nat → Nat → Prop} {b : List Int}, i + k ≤ l.length → BestOk l S b → BestOk l (fun i' j' m' n' => S i' j' m' n' ∨ ((i ≤ i' ∧ i' < i + k) ∧ (i' < j' ∧ j' < l.length) ∧ i' < m' ∧ m' < n' ∧ n' < l.length)) (tw0 l k i b)
  | 0, i, S, b, _, h => h.congr fun i' j' m' n' => ⟨.inl, fun h => h.elim id fun h => by omega⟩
  | k + 1, i, S, b, hk, h => by
    rw [tw0_succ]
    refine (BestOk.zero k (i + 1) (by omega) (h.two i (by omega) (l.length - (i + 1)) (i + 1) (by omega))).congr fun i' j' m' n' => ⟨?_, ?_⟩
    · rintro ((h | h) | h)
      · exact .inl h
      · exact .inr (by omega)
      · exact .inr (by omega)
    · rintro (h | h)
      · exact .inl (.inl h)
      · by_cases e : i' = i
        · exact .inl (.inr (by omega))
        · exact .inr (by omega)
def Quad (l : List Int) (i j m n : Nat) : Prop := (i < j ∧ j < l.length) ∧ i < m ∧ m < n ∧ n < l.length
end Go.Proofs.Ytpghadmpegncgaa

/-
  BODIES OF FUNCTIONS OF THE PROGRAM AS SMALL OPERATIONS (written by gen.py; checked by the kernel against the program). Conditions: none.
-/
namespace Go.Proofs.Ytpghadmpegncgaa
open Go.AM
open Go.Proofs.Try (prog)
set_option maxRecDepth 100000
set_option linter.all false

namespace l04_holes
/-- pommel/pommellaw04.holes -/
noncomputable def b : Code := (Try.f30.body).getD .skip
theorem hf : prog.funcs[30]? = some Try.f30 := by kernel_rfl
noncomputable def r0 : Code := findReg b 0
noncomputable def r1 : Code := findReg b 1
noncomputable def r2 : Code := findReg b 2
noncomputable def k0 : Code := findBlk b 0
noncomputable def l0 : Code := loopOf k0
noncomputable def L0 (x0 x3 x4 : AV) (m : Mem) (K : List Item) : Option Res := den prog ann 30 (.code l0 :: .inLoop l0 :: .inBlock 0 :: K) ⟨[(0, x0), (3, x3), (4, x4)], 35, m⟩
noncomputable def r3 : Code := findReg b 3
noncomputable def i0 : Code := findCond b 0
noncomputable def i0t : Code := thenOf i0
noncomputable def i0e : Code := elseOf i0
noncomputable def k1 : Code := findBlk b 1
noncomputable def r5 : Code := findReg b 5
noncomputable def r4 : Code := findReg b 4
noncomputable def r6 : Code := findReg b 6
theorem b_eq (K : List Item) (s : St) : den prog ann 30 (.code b :: K) s = den prog ann 30 (.code r0 :: .code r1 :: .code r2 :: .code k0 :: .code r6 :: .code .ret :: K) s := den_flat hf (l := [r0, r1, r2, k0, r6, .ret]) (by kernel_rfl) K s
theorem r0_eq (K : List Item) (s : St) : den prog ann 30 (.code r0 :: K) s = mreg prog ann 30 none [] none [] [
    ⟨some 2, none, .v fun s => some (.nils)⟩] K s := (den_reg hf _ K s).trans (by kernel_rfl)
theorem r1_eq (K : List Item) (s : St) : den prog ann 30 (.code r1 :: K) s = mreg prog ann 30 none [] none [] [
    ⟨some 5, none, .w false none fun s => bslM s.m 1 (bslA 1 1 [.int .i64 0] [(0, (.int .i64 0))])⟩,
    ⟨some 3, none, .v fun s => some (s.get 5)⟩] K s := (den_reg hf _ K s).trans (by kernel_rfl)
theorem r2_eq (K : List Item) (s : St) : den prog ann 30 (.code r2 :: K) s = mreg prog ann 30 none [] none [] [
    ⟨some 4, none, .v fun s => some (.int .i64 0)⟩] K s := (den_reg hf _ K s).trans (by kernel_rfl)
theorem k0_eq (K : List Item) (t : List (Nat × AV)) (m : Mem) : den prog ann 30 (.code k0 :: K) ⟨t, 35, m⟩ = L0 (get t 0) (get t 3) (get t 4) m K := den_loop_enter hf (b := l0) (id := 3) (l := [0, 3, 4]) (by kernel_rfl) (by kernel_rfl) (by kernel_rfl) K _
theorem l0_eq (K : List Item) (t : List (Nat × AV)) (m : Mem) : den prog ann 30 (.inLoop l0 :: .inBlock 0 :: K) ⟨t, 35, m⟩ = L0 (get t 0) (get t 3) (get t 4) m K := den_loop_again hf (id := 3) (l := [0, 3, 4]) (by kernel_rfl) (by kernel_rfl) (.inBlock 0 :: K) _
theorem L0_eq (x0 x3 x4 : AV) (m : Mem) (K : List Item) : L0 x0 x3 x4 m K = den prog ann 30 (.code r3 :: .code i0 :: .code k1 :: .code r4 :: .inLoop l0 :: .inBlock 0 :: K) ⟨[(0, x0), (3, x3), (4, x4)], 35, m⟩ := den_flat hf (l := [r3, i0, k1, r4]) (by kernel_rfl) _ _
theorem r3_eq (K : List Item) (s : St) : den prog ann 30 (.code r3 :: K) s = mreg prog ann 30 (some [0, 3, 4]) [] none [] [
    ⟨some 6, none, .v fun s => some (s.get 4)⟩,
    ⟨some 7, none, .v fun s => some (s.get 0)⟩,
    ⟨some 8, none, .v fun s => lenSl (s.get 7)⟩,
    ⟨some 9, none, .v fun s => binA prog .lss 3 (s.get 6) (s.get 8)⟩,
    ⟨some 10, none, .v fun s => some (s.get 9)⟩,
    ⟨some 11, some (10, true), .v fun s => some (s.get 3)⟩,
    ⟨some 12, some (10, true), .v fun s => lenSl (s.get 11)⟩,
    ⟨some 13, some (10, true), .v fun s => binA prog .lss 3 (s.get 12) (.int .i64 12)⟩,
    ⟨some 14, none, .v fun s => pickA (s.get 10) (s.get 13) (.bool false)⟩] K s := (den_reg hf _ K s).trans (by kernel_rfl)
theorem i0_eq (K : List Item) (s : St) : den prog ann 30 (.code i0 :: K) s = ifV prog ann 30 14 i0t i0e K s (s.get 14) := den_if hf (by kernel_rfl) K s
theorem i0t_eq (K : List Item) (s : St) : den prog ann 30 (.code i0t :: K) s = den prog ann 30 (K) s := den_flat hf (l := []) (by kernel_rfl) K s
theorem i0e_eq (K : List Item) (s : St) : den prog ann 30 (.code i0e :: K) s = den prog ann 30 (.code (.exit 0) :: K) s := den_flat hf (l := [(.exit 0)]) (by kernel_rfl) K s
theorem k1_eq (K : List Item) (s : St) : den prog ann 30 (.code k1 :: K) s = den prog ann 30 (.code r5 :: .inBlock 1 :: K) s := den_blk hf (b := blkOf k1) (l := [r5]) (by kernel_rfl) (by kernel_rfl) K s
theorem r5_draw : drawOk (fun g => (ann g).pure) (modeOf (ann 30) (idOf r5)) (frzOf (ann 30) (idOf r5)) (opsOf r5) = true := drawOk_of (an := [0, 0, 0, 4, 12, 30, 62, 0, 0, 384, 896, 1920, 3968, 8190, 16382, 32766, 65535, 131071]) (by kernel_rfl) (by kernel_rfl)
theorem r5_eq (K : List Item) (s : St) : den prog ann 30 (.code r5 :: K) s = mreg prog ann 30 none [] (some 18) [] [
    ⟨some 17, none, .v fun s => some (s.get 3)⟩,
    ⟨some 18, none, .v fun s => some (s.get 3)⟩,
    ⟨some 19, none, .v fun s => some (s.get 3)⟩,
    ⟨some 20, none, .v fun s => lenSl (s.get 19)⟩,
    ⟨some 21, none, .v fun s => binA prog .sub 3 (s.get 20) (.int .i64 1)⟩,
    ⟨some 22, none, .v fun s => idxSl 1 (s.get 18) (s.get 21)⟩,
    ⟨some 23, none, .v fun s => loadA false 1 s.m (s.get 22)⟩,
    ⟨some 24, none, .v fun s => some (s.get 0)⟩,
    ⟨some 25, none, .v fun s => some (s.get 4)⟩,
    ⟨some 26, none, .v fun s => idxSl 1 (s.get 24) (s.get 25)⟩,
    ⟨some 27, none, .v fun s => loadF false 1 (s.get 26)⟩,
    ⟨some 28, none, .v fun s => convInt .i64 (s.get 27)⟩,
    ⟨some 29, none, .v fun s => binA prog .rem 3 (s.get 28) (.int .i64 20)⟩,
    ⟨some 30, none, .v fun s => binA prog .add 3 (s.get 23) (s.get 29)⟩,
    ⟨some 31, none, .v fun s => binA prog .add 3 (s.get 30) (.int .i64 1)⟩,
    ⟨some 32, none, .v fun s => bslF 1 (bslA 1 1 [.int .i64 0] [(0, (s.get 31))])⟩,
    ⟨some 33, none, .w false (some 16) fun s => appendA 1 8 s.m (s.get 17) (s.get 32)⟩,
    ⟨some 3, none, .v fun s => some (s.get 33)⟩] K s := (den_regD hf r5_draw K s).trans (by kernel_rfl)
theorem r4_eq (K : List Item) (s : St) : den prog ann 30 (.code r4 :: K) s = mreg prog ann 30 (some [0, 3, 4]) [] none [] [
    ⟨some 15, none, .v fun s => some (s.get 4)⟩,
    ⟨some 16, none, .v fun s => binA prog .add 3 (s.get 15) (.int .i64 1)⟩,
    ⟨some 4, none, .v fun s => some (s.get 16)⟩] K s := (den_reg hf _ K s).trans (by kernel_rfl)
theorem r6_eq (K : List Item) (s : St) : den prog ann 30 (.code r6 :: K) s = mreg prog ann 30 (some [3]) [] none [] [
    ⟨some 34, none, .v fun s => some (s.get 3)⟩,
    ⟨some 2, none, .v fun s => some (s.get 34)⟩] K s := (den_reg hf _ K s).trans (by kernel_rfl)
theorem ret_eq (K : List Item) (s : St) : den prog ann 30 (.code .ret :: K) s = finM true [fun s => some (s.get 2)] s := (den_ret hf K s).trans (by kernel_rfl)
theorem nil_eq (s : St) : den prog ann 30 [] s = finM true [fun s => some (s.get 2)] s := (den_nil hf s).trans (by kernel_rfl)
theorem inBlock_eq (id : Nat) (K : List Item) (s : St) : den prog ann 30 (.inBlock id :: K) s = den prog ann 30 K s := den_inBlock hf id K s
theorem exit_eq (id : Nat) (K : List Item) (s : St) : den prog ann 30 (.code (.exit id) :: K) s = exitV prog ann 30 (exitTo id K) s := den_exitV hf id K s
theorem call_eq (v0 : AV) (m : Mem) (h : closedL [v0] = true) : denC prog ann 30 [v0] m = (den prog ann 30 [.code b] ⟨[(0, v0)], 35, Mem.empty⟩).bind fun r => some (r.1, m) := (denC_pure hf (b := b) (by kernel_rfl) (by kernel_rfl) (by kernel_rfl) h m).trans (by kernel_rfl)
theorem pure_eq : (ann 30).pure = true := by kernel_rfl
attribute [simp] b_eq r0_eq r1_eq r2_eq k0_eq l0_eq r3_eq i0_eq i0t_eq i0e_eq k1_eq r5_eq r4_eq r6_eq ret_eq nil_eq inBlock_eq exit_eq pure_eq
end l04_holes

namespace l04_StrapMirrored
/-- pommel/pommellaw04.StrapMirrored -/
noncomputable def b : Code := (Try.f7.body).getD .skip
theorem hf : prog.funcs[7]? = some Try.f7 := by kernel_rfl
noncomputable def r0 : Code := findReg b 0
noncomputable def r1 : Code := findReg b 1
noncomputable def r2 : Code := findReg b 2
noncomputable def k0 : Code := findBlk b 0
noncomputable def l0 : Code := loopOf k0
noncomputable def L0 (x3 x4 x5 : AV) (m : Mem) (K : List Item) : Option Res := den prog ann 7 (.code l0 :: .inLoop l0 :: .inBlock 0 :: K) ⟨[(3, x3), (4, x4), (5, x5)], 104, m⟩
noncomputable def r3 : Code := findReg b 3
noncomputable def i0 : Code := findCond b 0
noncomputable def i0t : Code := thenOf i0
noncomputable def i0e : Code := elseOf i0
noncomputable def k1 : Code := findBlk b 1
noncomputable def r5 : Code := findReg b 5
noncomputable def r4 : Code := findReg b 4
noncomputable def r6 : Code := findReg b 6
noncomputable def r7 : Code := findReg b 7
noncomputable def r8 : Code := findReg b 8
noncomputable def r9 : Code := findReg b 9
noncomputable def r10 : Code := findReg b 10
noncomputable def r11 : Code := findReg b 11
noncomputable def r12 : Code := findReg b 12
theorem b_eq (K : List Item) (s : St) : den prog ann 7 (.code b :: K) s = den prog ann 7 (.code r0 :: .code r1 :: .code r2 :: .code k0 :: .code r6 :: .code r7 :: .code r8 :: .code r9 :: .code r10 :: .code r11 :: .code r12 :: .code .ret :: K) s := den_flat hf (l := [r0, r1, r2, k0, r6, r7, r8, r9, r10, r11, r12, .ret]) (by kernel_rfl) K s
theorem r0_eq (K : List Item) (s : St) : den prog ann 7 (.code r0 :: K) s = mreg prog ann 7 none [] none [] [
    ⟨some 2, none, .v fun s => some (.bool false)⟩] K s := (den_reg hf _ K s).trans (by kernel_rfl)
theorem r1_eq (K : List Item) (s : St) : den prog ann 7 (.code r1 :: K) s = mreg prog ann 7 none [] none [] [
    ⟨some 18, none, .v fun s => some (s.get 0)⟩,
    ⟨some 19, none, .c 0 (fun s => (.fn 30 [] [])) fun s => [(s.get 18)]⟩,
    ⟨some 20, none, .w false none fun s => bslM s.m 0 (bslA 1 0 [.int .i64 0] [])⟩,
    ⟨some 3, none, .v fun s => some (s.get 19)⟩,
    ⟨some 4, none, .v fun s => some (s.get 20)⟩] K s := (den_reg hf _ K s).trans (by kernel_rfl)
theorem r2_eq (K : List Item) (s : St) : den prog ann 7 (.code r2 :: K) s = mreg prog ann 7 none [] none [] [
    ⟨some 21, none, .v fun s => some (s.get 3)⟩,
    ⟨some 22, none, .v fun s => lenSl (s.get 21)⟩,
    ⟨some 23, none, .v fun s => binA prog .sub 3 (s.get 22) (.int .i64 1)⟩,
    ⟨some 5, none, .v fun s => some (s.get 23)⟩] K s := (den_reg hf _ K s).trans (by kernel_rfl)
theorem k0_eq (K : List Item) (t : List (Nat × AV)) (m : Mem) : den prog ann 7 (.code k0 :: K) ⟨t, 104, m⟩ = L0 (get t 3) (get t 4) (get t 5) m K := den_loop_enter hf (b := l0) (id := 3) (l := [3, 4, 5]) (by kernel_rfl) (by kernel_rfl) (by kernel_rfl) K _
theorem l0_eq (K : List Item) (t : List (Nat × AV)) (m : Mem) : den prog ann 7 (.inLoop l0 :: .inBlock 0 :: K) ⟨t, 104, m⟩ = L0 (get t 3) (get t 4) (get t 5) m K := den_loop_again hf (id := 3) (l := [3, 4, 5]) (by kernel_rfl) (by kernel_rfl) (.inBlock 0 :: K) _
theorem L0_eq (x3 x4 x5 : AV) (m : Mem) (K : List Item) : L0 x3 x4 x5 m K = den prog ann 7 (.code r3 :: .code i0 :: .code k1 :: .code r4 :: .inLoop l0 :: .inBlock 0 :: K) ⟨[(3, x3), (4, x4), (5, x5)], 104, m⟩ := den_flat hf (l := [r3, i0, k1, r4]) (by kernel_rfl) _ _
theorem r3_eq (K : List Item) (s : St) : den prog ann 7 (.code r3 :: K) s = mreg prog ann 7 (some [3, 4, 5]) [] none [] [
    ⟨some 24, none, .v fun s => some (s.get 5)⟩,
    ⟨some 25, none, .v fun s => binA prog .geq 3 (s.get 24) (.int .i64 0)⟩] K s := (den_reg hf _ K s).trans (by kernel_rfl)
theorem i0_eq (K : List Item) (s : St) : den prog ann 7 (.code i0 :: K) s = ifV prog ann 7 25 i0t i0e K s (s.get 25) := den_if hf (by kernel_rfl) K s
theorem i0t_eq (K : List Item) (s : St) : den prog ann 7 (.code i0t :: K) s = den prog ann 7 (K) s := den_flat hf (l := []) (by kernel_rfl) K s
theorem i0e_eq (K : List Item) (s : St) : den prog ann 7 (.code i0e :: K) s = den prog ann 7 (.code (.exit 0) :: K) s := den_flat hf (l := [(.exit 0)]) (by kernel_rfl) K s
theorem k1_eq (K : List Item) (s : St) : den prog ann 7 (.code k1 :: K) s = den prog ann 7 (.code r5 :: .inBlock 1 :: K) s := den_blk hf (b := blkOf k1) (l := [r5]) (by kernel_rfl) (by kernel_rfl) K s
theorem r5_draw : drawOk (fun g => (ann g).pure) (modeOf (ann 7) (idOf r5)) (frzOf (ann 7) (idOf r5)) (opsOf r5) = true := drawOk_of (an := [0, 0, 0, 4, 12, 30, 62, 0, 0, 384, 896, 2046, 4094, 8191, 16383]) (by kernel_rfl) (by kernel_rfl)
theorem r5_eq (K : List Item) (s : St) : den prog ann 7 (.code r5 :: K) s = mreg prog ann 7 none [] (some 15) [] [
    ⟨some 28, none, .v fun s => some (s.get 4)⟩,
    ⟨some 29, none, .v fun s => some (s.get 3)⟩,
    ⟨some 30, none, .v fun s => some (s.get 3)⟩,
    ⟨some 31, none, .v fun s => lenSl (s.get 30)⟩,
    ⟨some 32, none, .v fun s => binA prog .sub 3 (s.get 31) (.int .i64 1)⟩,
    ⟨some 33, none, .v fun s => idxSl 1 (s.get 29) (s.get 32)⟩,
    ⟨some 34, none, .v fun s => loadF false 1 (s.get 33)⟩,
    ⟨some 35, none, .v fun s => some (s.get 3)⟩,
    ⟨some 36, none, .v fun s => some (s.get 5)⟩,
    ⟨some 37, none, .v fun s => idxSl 1 (s.get 35) (s.get 36)⟩,
    ⟨some 38, none, .v fun s => loadF false 1 (s.get 37)⟩,
    ⟨some 39, none, .v fun s => binA prog .sub 3 (s.get 34) (s.get 38)⟩,
    ⟨some 40, none, .v fun s => bslF 1 (bslA 1 1 [.int .i64 0] [(0, (s.get 39))])⟩,
    ⟨some 41, none, .w false (some 13) fun s => appendA 1 8 s.m (s.get 28) (s.get 40)⟩,
    ⟨some 4, none, .v fun s => some (s.get 41)⟩] K s := (den_regD hf r5_draw K s).trans (by kernel_rfl)
theorem r4_eq (K : List Item) (s : St) : den prog ann 7 (.code r4 :: K) s = mreg prog ann 7 (some [3, 4, 5]) [] none [] [
    ⟨some 26, none, .v fun s => some (s.get 5)⟩,
    ⟨some 27, none, .v fun s => binA prog .sub 3 (s.get 26) (.int .i64 1)⟩,
    ⟨some 5, none, .v fun s => some (s.get 27)⟩] K s := (den_reg hf _ K s).trans (by kernel_rfl)
theorem r6_eq (K : List Item) (s : St) : den prog ann 7 (.code r6 :: K) s = mreg prog ann 7 (some [3, 4]) [4] none [] [
    ⟨some 43, none, .v fun s => some (s.get 3)⟩,
    ⟨some 44, none, .c 0 (fun s => (.fn 22 [] [])) fun s => [(s.get 43)]⟩,
    ⟨some 42, none, .v fun s => some (s.get 44)⟩,
    ⟨some 45, none, .v fun s => extA (s.get 42) 0⟩,
    ⟨some 46, none, .v fun s => extA (s.get 42) 1⟩,
    ⟨some 6, none, .v fun s => some (s.get 45)⟩,
    ⟨some 7, none, .v fun s => some (s.get 46)⟩] K s := (den_reg hf _ K s).trans (by kernel_rfl)
theorem r7_eq (K : List Item) (s : St) : den prog ann 7 (.code r7 :: K) s = mreg prog ann 7 none [] none [] [
    ⟨some 48, none, .v fun s => some (s.get 4)⟩,
    ⟨some 49, none, .c 2 (fun s => (.fn 22 [] [])) fun s => [(s.get 48)]⟩,
    ⟨some 47, none, .v fun s => some (s.get 49)⟩,
    ⟨some 50, none, .v fun s => extA (s.get 47) 0⟩,
    ⟨some 51, none, .v fun s => extA (s.get 47) 1⟩,
    ⟨some 8, none, .v fun s => some (s.get 50)⟩,
    ⟨some 9, none, .v fun s => some (s.get 51)⟩] K s := (den_reg hf _ K s).trans (by kernel_rfl)
theorem r8_eq (K : List Item) (s : St) : den prog ann 7 (.code r8 :: K) s = mreg prog ann 7 none [] none [] [
    ⟨some 53, none, .v fun s => some (s.get 3)⟩,
    ⟨some 54, none, .c 0 (fun s => (.fn 23 [] [])) fun s => [(s.get 53)]⟩,
    ⟨some 52, none, .v fun s => some (s.get 54)⟩,
    ⟨some 55, none, .v fun s => extA (s.get 52) 0⟩,
    ⟨some 56, none, .v fun s => extA (s.get 52) 1⟩,
    ⟨some 10, none, .v fun s => some (s.get 55)⟩,
    ⟨some 11, none, .v fun s => some (s.get 56)⟩] K s := (den_reg hf _ K s).trans (by kernel_rfl)
theorem r9_eq (K : List Item) (s : St) : den prog ann 7 (.code r9 :: K) s = mreg prog ann 7 none [] none [] [
    ⟨some 58, none, .v fun s => some (s.get 4)⟩,
    ⟨some 59, none, .c 2 (fun s => (.fn 23 [] [])) fun s => [(s.get 58)]⟩,
    ⟨some 57, none, .v fun s => some (s.get 59)⟩,
    ⟨some 60, none, .v fun s => extA (s.get 57) 0⟩,
    ⟨some 61, none, .v fun s => extA (s.get 57) 1⟩,
    ⟨some 12, none, .v fun s => some (s.get 60)⟩,
    ⟨some 13, none, .v fun s => some (s.get 61)⟩] K s := (den_reg hf _ K s).trans (by kernel_rfl)
theorem r10_eq (K : List Item) (s : St) : den prog ann 7 (.code r10 :: K) s = mreg prog ann 7 none [] none [] [
    ⟨some 63, none, .v fun s => some (s.get 3)⟩,
    ⟨some 64, none, .c 0 (fun s => (.fn 24 [] [])) fun s => [(s.get 63)]⟩,
    ⟨some 62, none, .v fun s => some (s.get 64)⟩,
    ⟨some 65, none, .v fun s => extA (s.get 62) 0⟩,
    ⟨some 66, none, .v fun s => extA (s.get 62) 1⟩,
    ⟨some 14, none, .v fun s => some (s.get 65)⟩,
    ⟨some 15, none, .v fun s => some (s.get 66)⟩] K s := (den_reg hf _ K s).trans (by kernel_rfl)
theorem r11_eq (K : List Item) (s : St) : den prog ann 7 (.code r11 :: K) s = mreg prog ann 7 none [] none [] [
    ⟨some 68, none, .v fun s => some (s.get 4)⟩,
    ⟨some 69, none, .c 2 (fun s => (.fn 24 [] [])) fun s => [(s.get 68)]⟩,
    ⟨some 67, none, .v fun s => some (s.get 69)⟩,
    ⟨some 70, none, .v fun s => extA (s.get 67) 0⟩,
    ⟨some 71, none, .v fun s => extA (s.get 67) 1⟩,
    ⟨some 16, none, .v fun s => some (s.get 70)⟩,
    ⟨some 17, none, .v fun s => some (s.get 71)⟩] K s := (den_reg hf _ K s).trans (by kernel_rfl)
theorem r12_eq (K : List Item) (s : St) : den prog ann 7 (.code r12 :: K) s = mreg prog ann 7 none [] none [] [
    ⟨some 72, none, .v fun s => some (s.get 7)⟩,
    ⟨some 73, none, .v fun s => binA prog .eql 23 (s.get 72) (.int .i64 0)⟩,
    ⟨some 74, none, .v fun s => some (s.get 73)⟩,
    ⟨some 75, some (74, true), .v fun s => some (s.get 9)⟩,
    ⟨some 76, some (74, true), .v fun s => binA prog .eql 23 (s.get 75) (.int .i64 0)⟩,
    ⟨some 77, none, .v fun s => pickA (s.get 74) (s.get 76) (.bool false)⟩,
    ⟨some 78, none, .v fun s => some (s.get 77)⟩,
    ⟨some 79, some (78, true), .v fun s => some (s.get 11)⟩,
    ⟨some 80, some (78, true), .v fun s => binA prog .eql 23 (s.get 79) (.int .i64 0)⟩,
    ⟨some 81, none, .v fun s => pickA (s.get 78) (s.get 80) (.bool false)⟩,
    ⟨some 82, none, .v fun s => some (s.get 81)⟩,
    ⟨some 83, some (82, true), .v fun s => some (s.get 13)⟩,
    ⟨some 84, some (82, true), .v fun s => binA prog .eql 23 (s.get 83) (.int .i64 0)⟩,
    ⟨some 85, none, .v fun s => pickA (s.get 82) (s.get 84) (.bool false)⟩,
    ⟨some 86, none, .v fun s => some (s.get 85)⟩,
    ⟨some 87, some (86, true), .v fun s => some (s.get 6)⟩,
    ⟨some 88, some (86, true), .v fun s => some (s.get 8)⟩,
    ⟨some 89, some (86, true), .c 0 (fun s => (.fn 15 [] [])) fun s => [(s.get 87), (s.get 88)]⟩,
    ⟨some 90, none, .v fun s => pickA (s.get 86) (s.get 89) (.bool false)⟩,
    ⟨some 91, none, .v fun s => some (s.get 90)⟩,
    ⟨some 92, some (91, true), .v fun s => some (s.get 10)⟩,
    ⟨some 93, some (91, true), .v fun s => some (s.get 12)⟩,
    ⟨some 94, some (91, true), .c 0 (fun s => (.fn 15 [] [])) fun s => [(s.get 92), (s.get 93)]⟩,
    ⟨some 95, none, .v fun s => pickA (s.get 91) (s.get 94) (.bool false)⟩,
    ⟨some 96, none, .v fun s => some (s.get 95)⟩,
    ⟨some 97, some (96, true), .v fun s => some (s.get 15)⟩,
    ⟨some 98, some (96, true), .v fun s => some (s.get 17)⟩,
    ⟨some 99, some (96, true), .v fun s => binA prog .eql 23 (s.get 97) (s.get 98)⟩,
    ⟨some 100, none, .v fun s => pickA (s.get 96) (s.get 99) (.bool false)⟩,
    ⟨some 101, none, .v fun s => some (s.get 100)⟩,
    ⟨some 102, some (101, true), .c 0 (fun s => (.fn 14 [] [])) fun s => []⟩,
    ⟨some 103, none, .v fun s => pickA (s.get 101) (s.get 102) (.bool false)⟩,
    ⟨some 2, none, .v fun s => some (s.get 103)⟩] K s := (den_reg hf _ K s).trans (by kernel_rfl)
theorem ret_eq (K : List Item) (s : St) : den prog ann 7 (.code .ret :: K) s = finM true [fun s => some (s.get 2)] s := (den_ret hf K s).trans (by kernel_rfl)
theorem nil_eq (s : St) : den prog ann 7 [] s = finM true [fun s => some (s.get 2)] s := (den_nil hf s).trans (by kernel_rfl)
theorem inBlock_eq (id : Nat) (K : List Item) (s : St) : den prog ann 7 (.inBlock id :: K) s = den prog ann 7 K s := den_inBlock hf id K s
theorem exit_eq (id : Nat) (K : List Item) (s : St) : den prog ann 7 (.code (.exit id) :: K) s = exitV prog ann 7 (exitTo id K) s := den_exitV hf id K s
theorem call_eq (v0 : AV) (m : Mem) (h : closedL [v0] = true) : denC prog ann 7 [v0] m = (den prog ann 7 [.code b] ⟨[(0, v0)], 104, Mem.empty⟩).bind fun r => some (r.1, m) := (denC_pure hf (b := b) (by kernel_rfl) (by kernel_rfl) (by kernel_rfl) h m).trans (by kernel_rfl)
theorem pure_eq : (ann 7).pure = true := by kernel_rfl
attribute [simp] b_eq r0_eq r1_eq r2_eq k0_eq l0_eq r3_eq i0_eq i0t_eq i0e_eq k1_eq r5_eq r4_eq r6_eq r7_eq r8_eq r9_eq r10_eq r11_eq r12_eq ret_eq nil_eq inBlock_eq exit_eq pure_eq
end l04_StrapMirrored
end Go.Proofs.Ytpghadmpegncgaa

/-
  STRAPS (8): holes from bytes, and holes counted from the other end. Conditions: none.
-/
namespace Go.Proofs.Ytpghadmpegncgaa
open Go.AM
open Go.Proofs.Try (prog)
set_option linter.all false
set_option maxRecDepth 100000
set_option maxHeartbeats 4000000

theorem nth_last (l : List Int) (x : Int) : nth (l ++ [x]) l.length = x := by rw [nth_append, if_neg (by omega)]; simp [nth]
theorem StrapOk.more {l : List Int} (s : StrapOk l) (h : l.length < 40) {x : Int} (h1 : Go.Proofs.Ytpghadmpegncgaa.top l < x) (h2 : x ≤ 1000) : StrapOk (l ++ [x]) where
  pos := by simp
  few := by simp; omega
  zero := by have := s.pos; rw [nth_append, if_pos this, s.zero]
  asc := fun i hi => by
    simp at hi
    by_cases e : i + 1 < l.length
    · rw [nth_append, nth_append, if_pos (by omega), if_pos e]; exact s.asc i e
    · have e2 : i + 1 = l.length := by omega
      rw [e2, nth_last, nth_append, if_pos (by omega), show i = l.length - 1 by omega]
      exact h1
  top := by simp only [List.length_append, List.length_singleton, Nat.add_sub_cancel]; rw [nth_last]; exact h2
theorem holes_loop {v : AV} {bs : List Int} (hv : IsSl byteC v bs) (hb : ∀ x ∈ bs, 0 ≤ x ∧ x ≤ 255) (oid : Nat) : ∀ (k i : Nat) (acc : List Int) (m : Mem), k + acc.length = 12 → acc.length = i + 1 → StrapOk acc → top acc ≤ 20 * i → m.h oid = some (.cells (ints acc)) →
    ∃ l : List Int, (StrapOk l ∧ l.length ≤ 12) ∧ l04_holes.L0 v (.sl oid 1 0 acc.length acc.length) (.int .i64 i) m [.code l04_holes.r6, .code .ret] = some (.fsl false l.length (ints l), Mem.empty) := by
  intro k
  induction k with
  | zero =>
    intro i acc m h1 h2 s ht hm
    refine ⟨acc, ⟨s, by omega⟩, ?_⟩
    have hl : (acc.length : Int) = 12 := by omega
    rw [l04_holes.L0_eq]
    by_cases q : i < bs.length
    · simp [hv.len, q, hl, hm]
      done
    · simp [hv.len, q, hm]
      done
  | succ k ih =>
    intro i acc m h1 h2 s ht hm
    by_cases q : i < bs.length
    · have hl : (acc.length : Int) < 12 := by omega
      have hw : IntKind.wrap .i64 ((i : Int) + 1) = (i : Int) + 1 := wrap_id (by omega) (by omega)
      have hwl : IntKind.wrap .i64 ((acc.length : Int) - 1) = ((acc.length - 1 : Nat) : Int) := by rw [wrap_id (by omega) (by omega)]; omega
      have hlast : acc.length - 1 < acc.length := by omega
      obtain ⟨b, hbi⟩ : ∃ b, bs[i]? = some b := ⟨bs[i], List.getElem?_eq_getElem q⟩
      obtain ⟨b0, b1⟩ := hb b (List.mem_of_getElem? hbi)
      have hix := hv.idx (byteC_len bs) q .i64
      have hfl : flatC byteC (bs.drop i) = .int .u8 b :: flatC byteC (bs.drop (i + 1)) := flatC_at hbi
      have hcv : IntKind.wrap .i64 b = b := wrap_id (by omega) (by omega)
      have hr : b.tmod 20 = b % 20 := Int.tmod_eq_emod_of_nonneg b0
      have hr2 : 0 ≤ b % 20 ∧ b % 20 < 20 := by omega
      have t0 := s.nonneg hlast
      have t1 := s.top
      unfold top at ht
      have hw2 : IntKind.wrap .i64 (nth acc (acc.length - 1) + b % 20) = nth acc (acc.length - 1) + b % 20 := wrap_id (by omega) (by omega)
      have hw3 : IntKind.wrap .i64 (nth acc (acc.length - 1) + b % 20 + 1) = nth acc (acc.length - 1) + b % 20 + 1 := wrap_id (by omega) (by omega)
      have hx : ints acc ++ [AV.int .i64 (nth acc (acc.length - 1) + b % 20 + 1)] = ints (acc ++ [nth acc (acc.length - 1) + b % 20 + 1]) := by simp [ints]
      obtain ⟨l, g1, g2⟩ := ih (i + 1) (acc ++ [nth acc (acc.length - 1) + b % 20 + 1]) ⟨upd m.h oid (some (.cells (ints (acc ++ [nth acc (acc.length - 1) + b % 20 + 1])))), m.nx + 18⟩ (by simp; omega) (by simp; omega) (s.more (by omega) (by unfold Go.Proofs.Ytpghadmpegncgaa.top; omega) (by omega)) (by unfold top; simp only [List.length_append, List.length_singleton, Nat.add_sub_cancel]; rw [nth_last]; omega) (by simp)
      simp only [Int.natCast_add, Int.cast_ofNat_Int, List.length_append, List.length_singleton] at g2
      refine ⟨l, g1, ?_⟩
      rw [← g2, l04_holes.L0_eq]
      simp [hv.len, q, hl, hwl, hm, hlast, hix, hfl, hcv, hr, hw2, hw3, hx, Mem.set, hw, show acc.length ≤ 4611686018427387903 by omega, show (acc.length + 1) * 8 ≤ 70368744177664 by omega]
      done
    · refine ⟨acc, ⟨s, by omega⟩, ?_⟩
      rw [l04_holes.L0_eq]
      simp [hv.len, q, hm]
      done
theorem holes_spec {v : AV} {bs : List Int} (hv : IsSl byteC v bs) (hb : ∀ x ∈ bs, 0 ≤ x ∧ x ≤ 255) : ∃ w l, IsInts w l ∧ (StrapOk l ∧ l.length ≤ 12) ∧ ∀ m, denC prog ann 30 [v] m = some (w, m) := by
  have hcl : closedL [v] = true := by simp [hv.closed]
  obtain ⟨l, g1, g2⟩ := holes_loop hv hb 0 11 0 [0] ⟨upd Mem.empty.h 0 (some (.cells (ints [0]))), 1⟩ rfl rfl ⟨by decide, by decide, rfl, fun i hi => by simp at hi, by decide⟩ (by decide) (by simp)
  refine ⟨_, l, .inr ⟨false, rfl⟩, g1, fun m => ?_⟩
  simp at g2
  rw [l04_holes.call_eq _ _ hcl]
  simp [g2]
  done

/-! ### Holes counted from the other end -/
def mirL (l : List Int) : List Int := (l.map fun a => top l - a).reverse
theorem mirL_len (l : List Int) : (mirL l).length = l.length := by simp [mirL]
theorem mirL_nth {l : List Int} {i : Nat} (h : i < l.length) : nth (mirL l) i = top l - nth l (l.length - 1 - i) := by
  have h2 : i < (mirL l).length := by rw [mirL_len]; exact h
  rw [← nth_get h2]
  simp only [mirL, List.getElem_reverse, List.getElem_map, List.length_map]
  rw [nth_get (show l.length - 1 - i < l.length by omega)]
theorem mirL_top {l : List Int} (s : StrapOk l) : top (mirL l) = top l := by
  have := s.pos
  unfold top
  rw [mirL_len, mirL_nth (by omega), show l.length - 1 - (l.length - 1) = 0 by omega, s.zero]
  unfold top; omega
theorem mirL_ok {l : List Int} (s : StrapOk l) : StrapOk (mirL l) where
  pos := by rw [mirL_len]; exact s.pos
  few := by rw [mirL_len]; exact s.few
  zero := by
    have := s.pos
    rw [mirL_nth this]; unfold Go.Proofs.Ytpghadmpegncgaa.top
    rw [Nat.sub_zero]; omega
  asc := fun i hi => by
    rw [mirL_len] at hi
    rw [mirL_nth (by omega), mirL_nth hi]
    have := s.lt (show l.length - 1 - (i + 1) < l.length - 1 - i by omega) (by omega)
    omega
  top := by
    have := mirL_top s
    unfold Go.Proofs.Ytpghadmpegncgaa.top at this
    rw [this]; exact s.top
theorem mem_mirL {l : List Int} (x : Int) : x ∈ mirL l ↔ top l - x ∈ l := by
  simp only [mirL, List.mem_reverse, List.mem_map]
  constructor
  · rintro ⟨a, h, rfl⟩; rwa [show top l - (top l - a) = a by omega]
  · intro h; exact ⟨_, h, by omega⟩
theorem mirL_counts {l : List Int} (s : StrapOk l) : counts (mirL l) = counts l := by
  refine ext_nth (by rw [counts_len, counts_len, mirL_top s]) fun g => ?_
  rcases Nat.eq_zero_or_pos g with rfl | hg
  · rw [counts_zero s, counts_zero (mirL_ok s)]
  · rw [counts_D (mirL_ok s) hg, counts_U s hg, D, U]
    refine congrArg _ ?_
    conv => lhs; rw [show (mirL l).countP _ = ((l.map fun a => top l - a).reverse).countP _ from rfl]
    rw [List.countP_reverse, List.countP_map]
    refine List.countP_congr fun a _ => ?_
    simp only [Function.comp_apply, decide_eq_true_eq, mem_mirL]
    rw [show top l - (top l - a - (g : Int)) = a + g by omega]
end Go.Proofs.Ytpghadmpegncgaa

/-
  THE LAWS' EXAMPLES HOLD. Conditions: none.
-/
namespace Go.Proofs.Ytpghadmpegncgaa
open Go.AM
open Go.Proofs.Try (prog)
set_option linter.all false
set_option maxRecDepth 1000000

def isT (r : Option Res) : Bool := match r with
  | some (.bool b, _) => b
  | _ => false
theorem lives_run : isT (callN prog ann 3000 14 [] Mem.empty) = true := by kernel_rfl
@[simp] theorem lives_pure : (ann 14).pure = true := by kernel_rfl
theorem f14_at : prog.funcs[14]? = some Try.f14 := by kernel_rfl
theorem f14_some : Try.f14.body.isSome = true := by kernel_rfl
theorem lives_spec (m : Mem) : denC prog ann 14 [] m = some (.bool true, m) := by
  have hb : Try.f14.body = some (Try.f14.body.getD .skip) := by
    cases h : Try.f14.body with
    | none => have := f14_some; rw [h] at this; cases this
    | some b => rfl
  have e := fun m => denC_pure (P := prog) (A := ann) (f := 14) f14_at hb (by kernel_rfl) (by kernel_rfl) (show closedL [] = true from rfl) m
  have h := lives_run
  cases hr : callN prog ann 3000 14 [] Mem.empty with
  | none => rw [hr] at h; cases h
  | some r =>
    rw [hr] at h
    have h2 := denC_of_callN hr
    rw [e] at h2 ⊢
    obtain ⟨q, h3, h4⟩ := Option.bind_eq_some_iff.1 h2
    rw [h3]
    simp at h4
    subst h4
    match q, h with
    | (.bool true, _), _ => rfl
end Go.Proofs.Ytpghadmpegncgaa

/-
  StrapMirrored: the law answers true. Conditions: none.
-/
namespace Go.Proofs.Ytpghadmpegncgaa
open Go.AM
open Go.Proofs.Try (prog)
set_option linter.all false
set_option maxRecDepth 100000
set_option maxHeartbeats 8000000

theorem StrapErr.zero {l : List Int} (s : StrapOk l) {e : Int} (h : StrapErr l e) : e = 0 := h.uniq (.ok s)
theorem TwRes.err {l : List Int} {w : AV} {g : Int} (h : TwRes l w 0 g) : g = if fstL (moreP (counts l)) (counts l).length 0 < 0 then 5 else 0 := by
  cases h with
  | bad h => exact absurd rfl h
  | none _ h => rw [if_pos h]
  | ok _ h => rw [if_neg (by omega)]
theorem mirr_end {w : AV} {l : List Int} (hv : IsInts w l) (s : StrapOk l) (oid : Nat) (x5 : Int) (m : Mem) (hm : m.h oid = some (.cells (ints (mirL l)))) (hx : x5 < 0) :
    l04_StrapMirrored.L0 w (.sl oid 1 0 l.length l.length) (.int .i64 x5) m [.code l04_StrapMirrored.r6, .code l04_StrapMirrored.r7, .code l04_StrapMirrored.r8, .code l04_StrapMirrored.r9, .code l04_StrapMirrored.r10, .code l04_StrapMirrored.r11, .code l04_StrapMirrored.r12, .code .ret] = some (.bool true, Mem.empty) := by
  have s2 := mirL_ok s
  have hfew := s.few
  have hl2 := mirL_len l
  have hv2 : IsInts (.fsl false l.length (ints (mirL l))) (mirL l) := .inr ⟨false, by rw [hl2]⟩
  obtain ⟨e, he, hc, _⟩ := check_ref hv (by omega)
  obtain ⟨e', he', hc', _⟩ := check_ref hv2 (by omega)
  have q := he.zero s
  have q' := he'.zero s2
  subst q q'
  obtain ⟨w1, x1, _, e1⟩ := dist_spec hv he hc
  obtain ⟨w2, x2, _, e2⟩ := dist_spec hv2 he' hc'
  obtain ⟨w3, x3, _, e3⟩ := miss_spec hv he hc
  obtain ⟨w4, x4, _, e4⟩ := miss_spec hv2 he' hc'
  obtain ⟨w5, g5, t5, e5⟩ := tw_spec hv he hc
  obtain ⟨w6, g6, t6, e6⟩ := tw_spec hv2 he' hc'
  have i1 := x1 rfl
  have i2 := x2 rfl
  have i3 := x3 rfl
  have i4 := x4 rfl
  have r5 := t5.err
  have r6 := t6.err
  rw [mirL_counts s] at i2 r6
  rw [show misses (mirL l) = misses l by rw [misses, misses, mirL_counts s]] at i4
  rw [← r5] at r6
  have hcl := counts_few s
  have hml : (misses l).length ≤ 1001 := by
    have := List.length_filter_le (fun d => decide (0 < d) && decide (nth (counts l) d = 0)) (List.range' 0 (counts l).length)
    simp only [misses, missL, List.length_map]; simp at this; omega
  have h1 := fun m => same_spec i1 i2 (by omega) (by omega) m
  have h2 := fun m => same_spec i3 i4 (by omega) (by omega) m
  rw [decide_eq_true rfl] at h1 h2
  have hxx : ¬ 0 ≤ x5 := by omega
  have htk : (mirL l).take l.length = mirL l := List.take_of_length_le (by omega)
  rw [l04_StrapMirrored.L0_eq]
  simp [hxx, hm, hl2, htk, hv.closed, e1, e2, e3, e4, e5, e6, i1.closed, i2.closed, i3.closed, i4.closed, h1, h2, r6, lives_spec]
  done
theorem mirr_loop {w : AV} {l : List Int} (hv : IsInts w l) (s : StrapOk l) (oid : Nat) : ∀ (k : Nat) (acc : List Int) (m : Mem), k + acc.length = l.length → acc = (mirL l).take acc.length → m.h oid = some (.cells (ints acc)) →
    l04_StrapMirrored.L0 w (.sl oid 1 0 acc.length acc.length) (.int .i64 ((k : Int) - 1)) m [.code l04_StrapMirrored.r6, .code l04_StrapMirrored.r7, .code l04_StrapMirrored.r8, .code l04_StrapMirrored.r9, .code l04_StrapMirrored.r10, .code l04_StrapMirrored.r11, .code l04_StrapMirrored.r12, .code .ret] = some (.bool true, Mem.empty) := by
  intro k
  have hfew := s.few
  induction k with
  | zero =>
    intro acc m h1 h2 hm
    have e : acc = mirL l := by rw [h2, List.take_of_length_le]; rw [mirL_len]; omega
    have e2 : acc.length = l.length := by omega
    rw [e2]
    rw [e] at hm
    exact mirr_end hv s oid _ m hm (by omega)
  | succ k ih =>
    intro acc m h1 h2 hm
    have hk : k < l.length := by omega
    have hpos := s.pos
    have hlast : l.length - 1 < l.length := by omega
    have hw : IntKind.wrap .i64 ((k : Int) - 1) = (k : Int) - 1 := wrap_id (by omega) (by omega)
    have hwl : IntKind.wrap .i64 ((l.length : Int) - 1) = ((l.length - 1 : Nat) : Int) := by rw [wrap_id (by omega) (by omega)]; omega
    have a1 := s.nonneg hk
    have a2 := s.le (show k ≤ l.length - 1 by omega) (by omega)
    have a3 := s.top
    have hw2 : IntKind.wrap .i64 (nth l (l.length - 1) - nth l k) = nth l (l.length - 1) - nth l k := wrap_id (by omega) (by omega)
    have hx : ints acc ++ [AV.int .i64 (nth l (l.length - 1) - nth l k)] = ints (acc ++ [nth l (l.length - 1) - nth l k]) := by simp [ints]
    have hn : nth (mirL l) acc.length = nth l (l.length - 1) - nth l k := by
      rw [mirL_nth (by omega), show l.length - 1 - acc.length = k by omega]; rfl
    have hst := ih (acc ++ [nth l (l.length - 1) - nth l k]) ⟨upd m.h oid (some (.cells (ints (acc ++ [nth l (l.length - 1) - nth l k])))), m.nx + 15⟩ (by simp; omega) (by
      have hlt : acc.length < (mirL l).length := by rw [mirL_len]; omega
      rw [List.length_append, List.length_singleton, List.take_succ_eq_append_getElem hlt, ← h2, nth_get hlt, hn]) (by simp)
    simp only [Int.natCast_add, Int.cast_ofNat_Int, List.length_append, List.length_singleton] at hst
    rw [show ((k + 1 : Nat) : Int) - 1 = (k : Int) by omega, ← hst, l04_StrapMirrored.L0_eq]
    simp [hv.len, hwl, hv.idx hlast, ints_head hlast, hv.idx hk, ints_head hk, hw2, hm, hx, Mem.set, hw, show acc.length ≤ 4611686018427387903 by omega, show (acc.length + 1) * 8 ≤ 70368744177664 by omega]
    done
theorem mirr_runs {d : Nat} (a0 : AV) (h0 : DatV prog (d + 4) 37 a0) : ∃ m', denC prog ann 7 [a0] Mem.empty = some (.bool true, m') := by
  obtain ⟨bs, hb, _, hb2⟩ := datV37 h0
  obtain ⟨w, l, hv, ⟨s, hl⟩, hh⟩ := holes_spec hb hb2
  have hcl : closedL [a0] = true := by simp [hb.closed]
  have hpos := s.pos
  have hwl : IntKind.wrap .i64 ((l.length : Int) - 1) = (l.length : Int) - 1 := wrap_id (by omega) (by omega)
  have lp := mirr_loop hv s 0 l.length [] ⟨upd Mem.empty.h 0 (some (.cells (ints []))), 1⟩ rfl rfl (by simp)
  simp at lp
  refine ⟨Mem.empty, ?_⟩
  rw [l04_StrapMirrored.call_eq _ _ hcl]
  simp [hb.closed, hh, hv.len, hwl, lp]
  done
end Go.Proofs.Ytpghadmpegncgaa
