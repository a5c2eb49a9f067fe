/-
  STRAPS (16): the two searches for a round strap find the same. Conditions: none.
-/
import Derived.Test.YtpghadmpegncgaaK01
import Derived.Test.YtpghadmpegncgaaKAmE
import Derived.Test.YtpghadmpegncgaaKAmH
set_option linter.all false
namespace Go.Proofs.Ytpghadmpegncgaa
open Go.AM
set_option linter.all false
set_option maxRecDepth 10000
set_option maxHeartbeats 2000000

theorem StrapOk.ge {l : List Int} (s : StrapOk l) : ∀ {i : Nat}, i < l.length → (i : Int) ≤ nth l i
  | 0, _ => by rw [s.zero]; omega
  | i + 1, h => by
    have := s.ge (i := i) (by omega)
    have := s.asc i h
    omega
theorem StrapOk.ring {l : List Int} (s : StrapOk l) {v : Nat} (hv : 2 ≤ v ∧ v ≤ 31) (ht : Go.Proofs.Ytpghadmpegncgaa.top l ≤ (v : Int) - 1) : RingOk v l := by
  have hpos := s.pos
  have hge := s.ge (i := l.length - 1) (by omega)
  unfold Go.Proofs.Ytpghadmpegncgaa.top at ht
  refine ⟨by omega, by omega, hpos, by omega, fun i hi => ⟨s.nonneg hi, ?_⟩, fun i hi => s.asc i hi⟩
  have := s.le (show i ≤ l.length - 1 by omega) (by omega)
  omega
def rrF (v : Nat) (often : Int) : Nat → List Int → Option (List Int)
  | 0, l => if pRound v often l = true then some l else none
  | f + 1, l => firstF (rrF v often f) l ((v : Int) - 1 - top l).toNat (top l + 1)
theorem firstF_none {r : List Int → Option (List Int)} {l : List Int} : ∀ (n : Nat) (x : Int), (∀ y, x ≤ y → y < x + n → r (l ++ [y]) = none) → firstF r l n x = none
  | 0, _, _ => rfl
  | n + 1, x, h => by
    rw [firstF, h x (by omega) (by omega)]
    exact firstF_none n (x + 1) fun y h1 h2 => h y (by omega) (by omega)
theorem rr_room (v : Nat) (often : Int) : ∀ (f : Nat) (l : List Int), top l ≤ (v : Int) - 1 → (v : Int) - 1 - top l < f → rrF v often f l = none
  | 0, l, h, h2 => by omega
  | f + 1, l, h, h2 => by
    rw [rrF]
    refine firstF_none _ _ fun y h3 h4 => rr_room v often f _ (by rw [top_app]; omega) (by rw [top_app]; omega)
theorem rr_not {v : Nat} {often : Int} (hv : 2 ≤ v ∧ v ≤ 31) (ho : 0 ≤ often) : ∀ (f : Nat) (l : List Int), StrapOk l → top l ≤ (v : Int) - 1 → l.length + f ≤ 31 → gRound v often l = false → rrF v often f l = none
  | 0, l, s, ht, _, hg => by
    rw [rrF, if_neg]
    intro h
    rw [round_iff (s.ring hv ht) ho] at h
    rw [h.1] at hg; cases hg
  | f + 1, l, s, ht, hl, hg => by
    rw [rrF]
    refine firstF_none _ _ fun y h3 h4 => ?_
    have s2 : StrapOk (l ++ [y]) := s.more (by omega) (by omega) (by omega)
    have ht2 : top (l ++ [y]) ≤ (v : Int) - 1 := by rw [top_app]; omega
    refine rr_not hv ho f _ s2 ht2 (by simp; omega) ?_
    have r1 := s.ring hv ht
    have r2 := s2.ring hv ht2
    have l1 := diffs_len v l
    have l2 := diffs_len v (l ++ [y])
    rw [Int.toNat_natCast] at l1 l2
    rw [gRound, decide_eq_false_iff_not, maxL_le (by omega)] at hg ⊢
    intro h
    refine hg fun g hg2 => ?_
    have := diffs_mono r1 r2 g
    have := h g (by omega)
    omega
theorem rr_count {v : Nat} {often : Int} (hv : 2 ≤ v ∧ v ≤ 31) (ho : 0 ≤ often) {k : Nat} (hk : k ≤ 31) (hc : ¬ ((k * (k - 1) : Nat) : Int) = often * ((v : Int) - 1)) : ∀ (f : Nat) (l : List Int), StrapOk l → top l ≤ (v : Int) - 1 → l.length + f = k → rrF v often f l = none
  | 0, l, s, ht, hl => by
    rw [rrF, if_neg]
    intro h
    rw [round_iff (s.ring hv ht) ho] at h
    have : l.length = k := by omega
    rw [this] at h
    exact hc h.2
  | f + 1, l, s, ht, hl => by
    rw [rrF]
    refine firstF_none _ _ fun y h3 h4 => ?_
    exact rr_count hv ho hk hc f _ (s.more (by omega) (by omega) (by omega)) (by rw [top_app]; omega) (by simp; omega)
theorem first_same {r r' : List Int → Option (List Int)} {l : List Int} : ∀ (n n' : Nat) (x : Int), n ≤ n' → (∀ y, x ≤ y → y < x + n → r (l ++ [y]) = r' (l ++ [y])) → (∀ y, x + n ≤ y → y < x + n' → r' (l ++ [y]) = none) → firstF r l n x = firstF r' l n' x
  | 0, n', x, _, _, h => (firstF_none n' x fun y h1 h2 => h y (by omega) h2).symm
  | n + 1, 0, x, h, _, _ => by omega
  | n + 1, n' + 1, x, h, h1, h2 => by
    rw [firstF, firstF, h1 x (by omega) (by omega)]
    rw [first_same n n' (x + 1) (by omega) (fun y a b => h1 y (by omega) (by omega)) (fun y a b => h2 y (by omega) (by omega))]
theorem find_rr {v : Nat} {often : Int} (hv : 2 ≤ v ∧ v ≤ 31) (ho : 0 ≤ often) {k : Nat} (hk : k ≤ 31) (hc : ((k * (k - 1) : Nat) : Int) = often * ((v : Int) - 1)) : ∀ (f : Nat) (l : List Int), StrapOk l → top l ≤ (v : Int) - 1 → l.length + f = k → findF (gRound v often) (fun _ => true) ((v : Int) - 1) f l = rrF v often f l
  | 0, l, s, ht, hl => by
    have h := round_iff (s.ring hv ht) ho
    have : l.length = k := by omega
    rw [this] at h
    rw [findF, rrF]
    by_cases q : gRound v often l = true
    · rw [if_pos q, if_pos rfl, if_pos (h.2 ⟨q, hc⟩)]
    · rw [if_neg q, if_neg (fun p => q (h.1 p).1)]
  | f + 1, l, s, ht, hl => by
    rw [findF]
    by_cases q : gRound v often l = true
    · rw [if_pos q, rrF]
      refine first_same _ _ _ (by omega) (fun y a b => ?_) fun y a b => ?_
      · exact find_rr hv ho hk hc f _ (s.more (by omega) (by omega) (by omega)) (by rw [top_app]; omega) (by simp; omega)
      · exact rr_room v often f _ (by rw [top_app]; omega) (by rw [top_app]; omega)
    · rw [if_neg q, rr_not hv ho (f + 1) l s ht (by omega) (by simpa using q)]
end Go.Proofs.Ytpghadmpegncgaa

/-
  STRAPS (17): Round, and the specification's. Conditions: none.
-/
namespace Go.Proofs.Ytpghadmpegncgaa
open Go.AM
open Go.Proofs.Try (prog)
set_option linter.all false
set_option maxRecDepth 100000
set_option maxHeartbeats 4000000

theorem rr_spec {v size : Nat} {often : Int} (hs : size ≤ 31) (h1 : 2 ≤ v ∧ v ≤ 31) : ∀ (f : Nat) (ex : Bool) (l : List Int), StrapOk l → top l ≤ (v : Int) - 1 → l.length + f = size →
    ∃ w', ResV (rrF v often f l) w' ∧ ∀ m, denC prog ann 18 [.int .i64 v, .int .i64 size, .int .i64 often, .fsl ex l.length (ints l)] m = some (w', m) := by
  intro f
  induction f with
  | zero =>
    intro ex l s htop hsz
    have hv : IsInts (.fsl ex l.length (ints l)) l := .inr ⟨ex, rfl⟩
    have hcl : closedL [.int .i64 v, .int .i64 size, .int .i64 often, .fsl ex l.length (ints l)] = true := rfl
    have hl : size = l.length := by omega
    subst hl
    have hre := fun m => reven_spec hv (s.ring h1 htop) m
    simp only [rrF]
    by_cases q : pRound v often l = true
    · rw [if_pos q]
      rw [pRound, Bool.and_eq_true, decide_eq_true_eq] at q
      simp only [evenV, if_pos q.1] at hre
      refine ⟨_, ⟨ex, rfl⟩, fun m => ?_⟩
      rw [r04_Round.call_eq _ _ _ _ _ hcl]
      simp [hre, q.2]
      done
    · rw [if_neg q]
      rw [pRound, Bool.and_eq_true, decide_eq_true_eq] at q
      refine ⟨_, rfl, fun m => ?_⟩
      rw [r04_Round.call_eq _ _ _ _ _ hcl]
      by_cases q1 : eqA (diffs v l) (v - 1) 1 = true
      · have q2 : ¬ nth (diffs v l) 1 = often := fun h => q ⟨q1, h⟩
        simp only [evenV, if_pos q1] at hre
        simp [hre, q2]
        done
      · simp only [evenV, if_neg q1] at hre
        simp [hre]
        done
  | succ f ih =>
    intro ex l s htop hsz
    have hv : IsInts (.fsl ex l.length (ints l)) l := .inr ⟨ex, rfl⟩
    have hcl : closedL [.int .i64 v, .int .i64 size, .int .i64 often, .fsl ex l.length (ints l)] = true := rfl
    have hl : ¬ (l.length : Int) = (size : Int) := by omega
    have hpos := s.pos
    have hlast : l.length - 1 < l.length := by omega
    have hwl : IntKind.wrap .i64 ((l.length : Int) - 1) = ((l.length - 1 : Nat) : Int) := by rw [wrap_id (by omega) (by omega)]; omega
    have t0 := s.nonneg hlast
    have t1 := s.top
    have w4 : IntKind.wrap .i64 (nth l (l.length - 1) + 1) = nth l (l.length - 1) + 1 := wrap_id (by omega) (by omega)
    have hp0 : (0 : Int) < l.length := by omega
    have hp0' : 0 < l.length := hpos
    have hl0 : ¬ l = [] := fun e => by rw [e] at hpos; simp at hpos
    have hn0 : (l.length == 0) = false := by simp; intro e; simp [e] at hpos
    have loop : ∀ (n : Nat) (x : Int), n = ((v : Int) - 1 - x + 1).toNat → top l < x → x ≤ 1001 → ∃ w', ResV (firstF (rrF v often f) l n x) w' ∧ ∀ m, r04_Round.L0 (.int .i64 v) (.int .i64 size) (.int .i64 often) (.fsl ex l.length (ints l)) (.int .i64 x) m [.code r04_Round.r17, .code .ret] = some (w', Mem.empty) := by
      intro n
      induction n with
      | zero =>
        intro x hn hx hx2
        refine ⟨.nils, rfl, fun m => ?_⟩
        have hc : ¬ x < (v : Int) := by omega
        rw [r04_Round.L0_eq]
        simp [hc]
        done
      | succ n ihn =>
        intro x hn hx hx2
        have hc : x < (v : Int) := by omega
        have hw : IntKind.wrap .i64 (x + 1) = x + 1 := wrap_id (by unfold top at hx; omega) (by omega)
        have s2 : StrapOk (l ++ [x]) := s.more (by omega) hx (by omega)
        obtain ⟨w1', r1, e1⟩ := ih false (l ++ [x]) s2 (by rw [top_app]; omega) (by simp; omega)
        obtain ⟨w2', r2, e2⟩ := ihn (x + 1) (by omega) (by omega) (by omega)
        have hxx : ints l ++ [AV.int .i64 x] = ints (l ++ [x]) := by simp [ints]
        have hll : (l ++ [x]).length = l.length + 1 := by simp
        have htk : (l ++ [x]).take (l.length + 1) = l ++ [x] := List.take_of_length_le (by simp)
        rw [hll] at e1
        simp only [firstF]
        cases hf : rrF v often f (l ++ [x]) with
        | some q =>
          rw [hf] at r1
          obtain ⟨ex', rfl⟩ := r1
          refine ⟨_, ⟨ex', rfl⟩, fun m => ?_⟩
          rw [r04_Round.L0_eq]
          simp [hc, hl0, hxx, hn0, Mem.set, show l.length ≤ 4611686018427387904 by omega, show l.length * 8 ≤ 70368744177664 by omega, show l.length ≤ 4611686018427387903 by omega, show (l.length + 1) * 8 ≤ 70368744177664 by omega, htk, e1]
          done
        | none =>
          rw [hf] at r1
          have r1' : w1' = .nils := r1
          subst r1'
          refine ⟨w2', r2, fun m => ?_⟩
          rw [r04_Round.L0_eq]
          simp [hc, hl0, hxx, hn0, Mem.set, show l.length ≤ 4611686018427387904 by omega, show l.length * 8 ≤ 70368744177664 by omega, show l.length ≤ 4611686018427387903 by omega, show (l.length + 1) * 8 ≤ 70368744177664 by omega, htk, e1, hw, e2]
          done
    obtain ⟨w', r, ew⟩ := loop ((v : Int) - 1 - top l).toNat (top l + 1) (by omega) (by omega) (by omega)
    unfold top at ew
    refine ⟨w', by simp only [rrF]; exact r, fun m => ?_⟩
    rw [r04_Round.call_eq _ _ _ _ _ hcl]
    simp [hl, hl0, hp0, hp0', hwl, hv.idx hlast, ints_head hlast, w4, ew]
    done
theorem rr_top {v k : Nat} {often : Int} (hk : 2 ≤ k ∧ k ≤ 31) (h1 : 2 ≤ v ∧ v ≤ 31) : ∃ w', ResV (rrF v often (k - 1) [0]) w' ∧ ∀ m, denC prog ann 18 [.int .i64 v, .int .i64 k, .int .i64 often, .nils] m = some (w', m) := by
  obtain ⟨w', r, e⟩ := rr_spec (v := v) (size := k) (often := often) (by omega) h1 (k - 1) false [0] one_ok (by show (0 : Int) ≤ _; omega) (by simp; omega)
  simp at e
  refine ⟨w', r, fun m => ?_⟩
  have hcl : closedL [.int .i64 v, .int .i64 k, .int .i64 often, .nils] = true := rfl
  have hk0 : ¬ (0 : Int) = (k : Int) := by omega
  have hk0' : ¬ k = 0 := by omega
  have hv0 : 0 < v := by omega
  have hv1 : (1 : Int) < v := by omega
  have lp1 : ∀ m, r04_Round.L0 (.int .i64 v) (.int .i64 k) (.int .i64 often) .nils (.int .i64 1) m [.code r04_Round.r17, .code .ret] = some (.nils, Mem.empty) := fun m => by
    rw [r04_Round.L0_eq]
    simp [hv1]
    done
  have lp0 : ∀ m, r04_Round.L0 (.int .i64 v) (.int .i64 k) (.int .i64 often) .nils (.int .i64 0) m [.code r04_Round.r17, .code .ret] = some (w', Mem.empty) := fun m => by
    rw [r04_Round.L0_eq]
    cases hf : rrF v often (k - 1) [0] with
    | some q =>
      rw [hf] at r
      obtain ⟨ex', rfl⟩ := r
      simp [hv0, e, Mem.set]
      done
    | none =>
      rw [hf] at r
      have r' : w' = .nils := r
      subst r'
      simp [hv0, e, Mem.set, lp1]
      done
  rw [r04_Round.call_eq _ _ _ _ _ hcl]
  simp [hk0, hk0', lp0]
  done
theorem ResV.deep {r : Option (List Int)} {w : AV} (h : ResV r w) (hp : Nat → Option AObj) (d : Nat) : AM.deep hp (d + 1) w = some w := by
  cases r with
  | none => have : w = .nils := h
            rw [this]; rfl
  | some q => obtain ⟨ex, rfl⟩ := h; rfl
theorem firstF_some {r : List Int → Option (List Int)} {l q : List Int} : ∀ {n : Nat} {x : Int}, firstF r l n x = some q → ∃ y, r (l ++ [y]) = some q
  | 0, _, h => by cases h
  | n + 1, x, h => by
    rw [firstF] at h
    cases hr : r (l ++ [x]) with
    | some p => rw [hr] at h; exact ⟨x, by rw [hr]; exact h⟩
    | none => rw [hr] at h; exact firstF_some h
theorem rr_len {v : Nat} {often : Int} : ∀ (f : Nat) (l q : List Int), rrF v often f l = some q → q.length = l.length + f
  | 0, l, q, h => by
    rw [rrF] at h
    split at h
    · injection h with h; rw [h]; rfl
    · cases h
  | f + 1, l, q, h => by
    rw [rrF] at h
    obtain ⟨y, hy⟩ := firstF_some h
    have := rr_len f _ q hy
    simp at this; omega

/-! ### The code's -/
theorem goes_spec {w : AV} {l : List Int} (hv : IsInts w l) {v : Nat} {often : Int} (s : RingOk v l) (m : Mem) : denC prog ann 65 [w, .fptr [.int .i64 v], .fptr [.int .i64 often]] m = some (.bool (gRound v often l), ⟨m.h, m.nx + 7⟩) := by
  have hw0 := intsV_is (diffs v l)
  have hlen := diffs_len v l
  have h1 := s.v2
  have h2 := s.v31
  rw [Int.toNat_natCast] at hlen
  have hmx := fun m => max_spec hw0 (by omega) (by omega) m
  rw [strap_round_1.call_eq]
  simp [hv.closed, diffs_spec hv s, hw0.closed, hmx, gRound]
  done
theorem clo_round {v : Nat} (h1 : 2 ≤ v ∧ v ≤ 31) (often : Int) : Clo (.fn 65 [] [.fptr [.int .i64 v], .fptr [.int .i64 often]]) (gRound v often) 7 ((v : Int) - 1) :=
  ⟨rfl, rfl, fun {w l} hv s ht m => by simp [hv.closed, goes_spec hv (s.ring h1 ht), show (ann 65).pure = false by kernel_rfl]⟩
theorem clo_true (last : Int) : Clo (.fn 66 [] []) (fun _ => true) 0 last := ⟨rfl, rfl, fun {w l} hv s _ m => by
  have e : ∀ m, denC prog ann 66 [w] m = some (.bool true, m) := fun m => by
    rw [strap_round_2.call_eq _ _ (by simp [hv.closed])]
    simp
    done
  simp [hv.closed, e]⟩
theorem round_spec {v k : Nat} {often : Int} (hk : 2 ≤ k ∧ k ≤ 6) (h1 : 2 ≤ v ∧ v ≤ 31) (ho : 1 ≤ often ∧ often ≤ 31) : ∃ w', ResV (rrF v often (k - 1) [0]) w' ∧ ∀ m, denC prog ann 46 [.int .i64 v, .int .i64 k, .int .i64 often] m = some (w', m) := by
  have hcl : closedL [.int .i64 v, .int .i64 k, .int .i64 often] = true := rfl
  have hw1 : IntKind.wrap .i64 ((k : Int) - 1) = (k : Int) - 1 := wrap_id (by omega) (by omega)
  have hw2 : IntKind.wrap .i64 ((v : Int) - 1) = (v : Int) - 1 := wrap_id (by omega) (by omega)
  have p0 : 0 ≤ (k : Int) * ((k : Int) - 1) := Int.mul_nonneg (by omega) (by omega)
  have p1 : (k : Int) * ((k : Int) - 1) ≤ 40 * 40 := Int.mul_le_mul (by omega) (by omega) (by omega) (by omega)
  have hw3 : IntKind.wrap .i64 ((k : Int) * ((k : Int) - 1)) = (k : Int) * ((k : Int) - 1) := wrap_id (by omega) (by omega)
  have p2 : 0 ≤ often * ((v : Int) - 1) := Int.mul_nonneg (by omega) (by omega)
  have p3 : often * ((v : Int) - 1) ≤ 40 * 40 := Int.mul_le_mul (by omega) (by omega) (by omega) (by omega)
  have hw4 : IntKind.wrap .i64 (often * ((v : Int) - 1)) = often * ((v : Int) - 1) := wrap_id (by omega) (by omega)
  have e : ((k * (k - 1) : Nat) : Int) = (k : Int) * ((k : Int) - 1) := by
    rw [Int.natCast_mul]; congr 1; omega
  have one_top : top [0] ≤ (v : Int) - 1 := by show (0 : Int) ≤ _; omega
  by_cases q : (k : Int) * ((k : Int) - 1) = often * ((v : Int) - 1)
  · obtain ⟨w', r, ew⟩ := find_spec (clo_round h1 often) (clo_true ((v : Int) - 1)) (size := k) (by omega) (by omega) (k - 1) true [0] one_ok one_top (by simp; omega)
    simp at ew
    rw [find_rr h1 (by omega) (k := k) (by omega) (by rw [e]; exact q) (k - 1) [0] one_ok one_top (by simp; omega)] at r
    refine ⟨w', r, fun m => ?_⟩
    rw [strap_round.call_eq _ _ _ _ hcl]
    rw [q] at hw3
    simp [hw1, hw2, hw3, hw4, q, ew, r.deep]
    done
  · rw [rr_count h1 (by omega) (k := k) (by omega) (by rw [e]; exact q) (k - 1) [0] one_ok one_top (by simp; omega)]
    refine ⟨.nils, rfl, fun m => ?_⟩
    rw [strap_round.call_eq _ _ _ _ hcl]
    simp [hw1, hw2, hw3, hw4, q]
    done
def BadR (v k often : Int) : Prop := v < 2 ∨ 31 < v ∨ k < 2 ∨ 6 < k ∨ v - 1 < k ∨ often < 1 ∨ v < often
theorem rnd_bad {v k often : Int} (hv : I64 v) (h : BadR v k often) (m : Mem) : denC prog ann 17 [.int .i64 v, .int .i64 k, .int .i64 often] m = some (.tup [.nils, .int .i64 1], m) := by
  have hcl : closedL [.int .i64 v, .int .i64 k, .int .i64 often] = true := rfl
  unfold BadR at h
  rw [strap_Round.call_eq _ _ _ _ hcl]
  by_cases q1 : v < 2
  · simp [q1]
    done
  · by_cases q2 : 31 < v
    · simp [q1, q2]
      done
    · by_cases q3 : k < 2
      · simp [q1, q2, q3]
        done
      · have hw : IntKind.wrap .i64 (v - 1) = v - 1 := wrap_id (by omega) (by omega)
        by_cases q4 : min 6 (v - 1) < k
        · simp [q1, q2, q3, hw, q4]
          done
        · by_cases q5 : often < 1
          · simp [q1, q2, q3, hw, q4, q5]
            done
          · have q6 : v < often := by omega
            simp [q1, q2, q3, hw, q4, q5, q6]
            done
theorem rnd_ok {v k : Nat} {often : Int} (h : ¬ BadR v k often) : ∃ w' e, ResV (rrF v often (k - 1) [0]) w' ∧ (e = if (rrF v often (k - 1) [0]).isNone = true then 5 else 0) ∧ ∀ m, denC prog ann 17 [.int .i64 v, .int .i64 k, .int .i64 often] m = some (.tup [w', .int .i64 e], m) := by
  have hcl : closedL [.int .i64 v, .int .i64 k, .int .i64 often] = true := rfl
  unfold BadR at h
  obtain ⟨w', r, e⟩ := round_spec (v := v) (k := k) (often := often) (by omega) (by omega) (by omega)
  have q1 : ¬ (v : Int) < 2 := by omega
  have q2 : ¬ (31 : Int) < v := by omega
  have q3 : ¬ (k : Int) < 2 := by omega
  have q4 : ¬ min 6 ((v : Int) - 1) < k := by omega
  have q5 : ¬ often < 1 := by omega
  have q6 : ¬ (v : Int) < often := by omega
  have hw : IntKind.wrap .i64 ((v : Int) - 1) = (v : Int) - 1 := wrap_id (by omega) (by omega)
  cases hf : rrF v often (k - 1) [0] with
  | some q =>
    rw [hf] at r
    obtain ⟨ex', rfl⟩ := r
    refine ⟨_, _, ⟨ex', rfl⟩, rfl, fun m => ?_⟩
    rw [strap_Round.call_eq _ _ _ _ hcl]
    simp [q1, q2, q3, q4, q5, q6, hw, e]
    done
  | none =>
    rw [hf] at r
    have r' : w' = .nils := r
    subst r'
    refine ⟨_, _, rfl, rfl, fun m => ?_⟩
    rw [strap_Round.call_eq _ _ _ _ hcl]
    simp [q1, q2, q3, q4, q5, q6, hw, e]
    done
end Go.Proofs.Ytpghadmpegncgaa

/-
  THE LAWS' EXAMPLES HOLD. Conditions: none.
-/
namespace Go.Proofs.Ytpghadmpegncgaa
open Go.AM
open Go.Proofs.Try (prog)
set_option linter.all false
set_option maxRecDepth 1000000

def isT (r : Option Res) : Bool := match r with
  | some (.bool b, _) => b
  | _ => false
theorem lives_run : isT (callN prog ann 3000 14 [] Mem.empty) = true := by kernel_rfl
@[simp] theorem lives_pure : (ann 14).pure = true := by kernel_rfl
theorem f14_at : prog.funcs[14]? = some Try.f14 := by kernel_rfl
theorem f14_some : Try.f14.body.isSome = true := by kernel_rfl
theorem lives_spec (m : Mem) : denC prog ann 14 [] m = some (.bool true, m) := by
  have hb : Try.f14.body = some (Try.f14.body.getD .skip) := by
    cases h : Try.f14.body with
    | none => have := f14_some; rw [h] at this; cases this
    | some b => rfl
  have e := fun m => denC_pure (P := prog) (A := ann) (f := 14) f14_at hb (by kernel_rfl) (by kernel_rfl) (show closedL [] = true from rfl) m
  have h := lives_run
  cases hr : callN prog ann 3000 14 [] Mem.empty with
  | none => rw [hr] at h; cases h
  | some r =>
    rw [hr] at h
    have h2 := denC_of_callN hr
    rw [e] at h2 ⊢
    obtain ⟨q, h3, h4⟩ := Option.bind_eq_some_iff.1 h2
    rw [h3]
    simp at h4
    subst h4
    match q, h with
    | (.bool true, _), _ => rfl
end Go.Proofs.Ytpghadmpegncgaa

/-
  StrapRounds: the law answers true. Conditions: none.
-/
namespace Go.Proofs.Ytpghadmpegncgaa
open Go.AM
open Go.Proofs.Try (prog)
set_option linter.all false
set_option maxRecDepth 100000
set_option maxHeartbeats 8000000

theorem rnd_all {v k often : Int} (hv : I64 v) (hk : I64 k) : BadR v k often ∧ (∀ m, denC prog ann 17 [.int .i64 v, .int .i64 k, .int .i64 often] m = some (.tup [.nils, .int .i64 1], m)) ∨
    ¬ BadR v k often ∧ ((∀ m, denC prog ann 17 [.int .i64 v, .int .i64 k, .int .i64 often] m = some (.tup [.nils, .int .i64 5], m)) ∧ (∀ m, denC prog ann 18 [.int .i64 v, .int .i64 k, .int .i64 often, .nils] m = some (.nils, m)) ∨
      ∃ (r : List Int) (e1 e2 : Bool), r.length ≤ 6 ∧ (∀ m, denC prog ann 17 [.int .i64 v, .int .i64 k, .int .i64 often] m = some (.tup [.fsl e1 r.length (ints r), .int .i64 0], m)) ∧ ∀ m, denC prog ann 18 [.int .i64 v, .int .i64 k, .int .i64 often, .nils] m = some (.fsl e2 r.length (ints r), m)) := by
  by_cases h : BadR v k often
  · exact .inl ⟨h, fun m => rnd_bad hv h m⟩
  · refine .inr ⟨h, ?_⟩
    have h' := h
    unfold BadR at h'
    obtain ⟨vn, rfl⟩ : ∃ n : Nat, v = n := ⟨v.toNat, by omega⟩
    obtain ⟨kn, rfl⟩ : ∃ n : Nat, k = n := ⟨k.toNat, by omega⟩
    obtain ⟨w1, e1, r1, x1, s1⟩ := rnd_ok h
    obtain ⟨w2, r2, s2⟩ := rr_top (v := vn) (k := kn) (often := often) (by omega) (by omega)
    cases hf : rrF vn often (kn - 1) [0] with
    | none =>
      rw [hf] at r1 r2 x1
      have a : w1 = .nils := r1
      have b : w2 = .nils := r2
      subst a b x1
      exact .inl ⟨s1, s2⟩
    | some q =>
      have hl := rr_len _ _ _ hf
      rw [hf] at r1 r2 x1
      obtain ⟨ex1, rfl⟩ := r1
      obtain ⟨ex2, rfl⟩ := r2
      subst x1
      exact .inr ⟨q, ex1, ex2, by simp at hl; omega, s1, s2⟩
/-- The law, its numbers cut. -/
theorem rnd_cut {v k often : Int} (hv : I64 v) (hk : I64 k) (t : List (Nat × AV)) (m : Mem) (h0 : get t 0 = .int .i64 v) (h1 : get t 1 = .int .i64 k) (h2 : get t 2 = .int .i64 often) :
    den prog ann 4 [.code l04_StrapRounds.r5, .code l04_StrapRounds.r6, .code l04_StrapRounds.r7, .code l04_StrapRounds.i2, .code l04_StrapRounds.r9, .code l04_StrapRounds.i3, .code l04_StrapRounds.r14, .code .ret] ⟨t, 88, m⟩ = some (.bool true, Mem.empty) := by
  rcases rnd_all (often := often) hv hk with ⟨h, s1⟩ | ⟨h, ⟨s1, s2⟩ | ⟨r, e1, e2, hr, s1, s2⟩⟩
  · unfold BadR at h
    by_cases q1 : v < 2
    · simp [h0, h1, h2, s1, q1, lives_spec]
      done
    · by_cases q2 : 31 < v
      · simp [h0, h1, h2, s1, q1, q2, lives_spec]
        done
      · by_cases q3 : k < 2
        · simp [h0, h1, h2, s1, q1, q2, q3, lives_spec]
          done
        · have hw : IntKind.wrap .i64 (v - 1) = v - 1 := wrap_id (by omega) (by omega)
          by_cases q4 : 6 < k
          · simp [h0, h1, h2, s1, q1, q2, q3, q4, lives_spec]
            done
          · by_cases q5 : v - 1 < k
            · simp [h0, h1, h2, s1, q1, q2, q3, q4, hw, q5, lives_spec]
              done
            · by_cases q6 : often < 1
              · simp [h0, h1, h2, s1, q1, q2, q3, q4, hw, q5, q6, lives_spec]
                done
              · have q7 : v < often := by omega
                simp [h0, h1, h2, s1, q1, q2, q3, q4, hw, q5, q6, q7, lives_spec]
                done
  · unfold BadR at h
    have q1 : ¬ v < 2 := by omega
    have q2 : ¬ 31 < v := by omega
    have q3 : ¬ k < 2 := by omega
    have q4 : ¬ 6 < k := by omega
    have q5 : ¬ v - 1 < k := by omega
    have q6 : ¬ often < 1 := by omega
    have q7 : ¬ v < often := by omega
    have hw : IntKind.wrap .i64 (v - 1) = v - 1 := wrap_id (by omega) (by omega)
    simp [h0, h1, h2, s1, s2, q1, q2, q3, q4, hw, q5, q6, q7, lives_spec]
    done
  · unfold BadR at h
    have q1 : ¬ v < 2 := by omega
    have q2 : ¬ 31 < v := by omega
    have q3 : ¬ k < 2 := by omega
    have q4 : ¬ 6 < k := by omega
    have q5 : ¬ v - 1 < k := by omega
    have q6 : ¬ often < 1 := by omega
    have q7 : ¬ v < often := by omega
    have hw : IntKind.wrap .i64 (v - 1) = v - 1 := wrap_id (by omega) (by omega)
    have hs := fun m => same_spec (va := .fsl e1 r.length (ints r)) (vb := .fsl e2 r.length (ints r)) (.inr ⟨e1, rfl⟩) (.inr ⟨e2, rfl⟩) (by omega) (by omega) m
    rw [decide_eq_true rfl] at hs
    simp [h0, h1, h2, s1, s2, hs, q1, q2, q3, q4, hw, q5, q6, q7, lives_spec]
    done
theorem rnd_runs {d : Nat} (a0 a1 a2 : AV) (h0 : DatV prog (d + 4) 3 a0) (h1 : DatV prog (d + 4) 3 a1) (h2 : DatV prog (d + 4) 3 a2) : ∃ m', denC prog ann 4 [a0, a1, a2] Mem.empty = some (.bool true, m') := by
  obtain ⟨v, rfl, hv⟩ := datV3 h0
  obtain ⟨k, rfl, hk⟩ := datV3 h1
  obtain ⟨often, rfl, _⟩ := datV3 h2
  have hcl : closedL [AV.int .i64 v, AV.int .i64 k, AV.int .i64 often] = true := rfl
  have i16 : I64 16 := ⟨by decide, by decide⟩
  have i4 : I64 4 := ⟨by decide, by decide⟩
  refine ⟨Mem.empty, ?_⟩
  rw [l04_StrapRounds.call_eq _ _ _ _ hcl]
  by_cases p1 : 16 < v
  · by_cases p2 : v ≤ 31
    · by_cases p3 : 4 < k
      · by_cases p4 : k ≤ 6
        · simp [-l04_StrapRounds.r5_eq, p1, p2, p3, p4]
          rw [rnd_cut i16 i4 _ _ rfl rfl rfl]; rfl
        · simp [-l04_StrapRounds.r5_eq, p1, p2, p3, p4]
          rw [rnd_cut i16 hk _ _ rfl rfl rfl]; rfl
      · simp [-l04_StrapRounds.r5_eq, p1, p2, p3]
        rw [rnd_cut i16 hk _ _ rfl rfl rfl]; rfl
    · by_cases p3 : 4 < k
      · by_cases p4 : k ≤ 6
        · simp [-l04_StrapRounds.r5_eq, p1, p2, p3, p4]
          rw [rnd_cut hv i4 _ _ rfl rfl rfl]; rfl
        · simp [-l04_StrapRounds.r5_eq, p1, p2, p3, p4]
          rw [rnd_cut hv hk _ _ rfl rfl rfl]; rfl
      · simp [-l04_StrapRounds.r5_eq, p1, p2, p3]
        rw [rnd_cut hv hk _ _ rfl rfl rfl]; rfl
  · by_cases p3 : 4 < k
    · by_cases p4 : k ≤ 6
      · simp [-l04_StrapRounds.r5_eq, p1, p3, p4]
        rw [rnd_cut hv i4 _ _ rfl rfl rfl]; rfl
      · simp [-l04_StrapRounds.r5_eq, p1, p3, p4]
        rw [rnd_cut hv hk _ _ rfl rfl rfl]; rfl
    · simp [-l04_StrapRounds.r5_eq, p1, p3]
      rw [rnd_cut hv hk _ _ rfl rfl rfl]; rfl
end Go.Proofs.Ytpghadmpegncgaa
