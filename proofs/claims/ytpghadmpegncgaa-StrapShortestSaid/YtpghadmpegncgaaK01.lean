/-
  STRAPS (4): the first distance that comes twice. Conditions: none.
-/
import Derived.Test.YtpghadmpegncgaaK00
import Derived.Test.YtpghadmpegncgaaKAmH
import Derived.Test.YtpghadmpegncgaaKAmF
set_option linter.all false
namespace Go.Proofs.Ytpghadmpegncgaa
open Go.AM
open Go.Proofs.Try (prog)
set_option linter.all false
set_option maxRecDepth 100000
set_option maxHeartbeats 4000000

def fstL (p : Nat → Bool) (k i : Nat) : Int := match (List.range' i k).find? p with | some d => (d : Int) | none => -1
theorem fstL_succ (p : Nat → Bool) (k i : Nat) : fstL p (k + 1) i = if p i = true then (i : Int) else fstL p k (i + 1) := by
  unfold fstL
  rw [List.range'_succ, List.find?_cons]
  cases h : p i <;> simp
def moreP (c : List Int) (d : Nat) : Bool := decide (1 < nth c d)
theorem more_spec (x : Int) (m : Mem) : denC prog ann 54 [.int .i64 x] m = some (.bool (decide (1 < x)), m) := by
  rw [strap_Twice_1.call_eq _ _ rfl]
  simp
  done
theorem ix_loop {w : AV} {c : List Int} (hw0 : IsInts w c) (hcl : c.length ≤ 1001) (m : Mem) : ∀ (k i : Nat), i + k = c.length →
    slices_IndexFunc_int.L0 w (.fn 54 [] []) (.int .i64 c.length) (.int .i64 i) m [.code slices_IndexFunc_int.r7, .code .ret] = some (.int .i64 (fstL (moreP c) k i), m) := by
  intro k
  induction k with
  | zero =>
    intro i h1
    have e : i = c.length := by omega
    subst e
    rw [slices_IndexFunc_int.L0_eq]
    simp [fstL]
    done
  | succ k ih =>
    intro i h1
    have hi : i < c.length := by omega
    have hw : IntKind.wrap .i64 ((i : Int) + 1) = (i : Int) + 1 := wrap_id (by omega) (by omega)
    have hst := ih (i + 1) (by omega)
    simp only [Int.natCast_add, Int.cast_ofNat_Int] at hst
    rw [fstL_succ, slices_IndexFunc_int.L0_eq]
    by_cases q : 1 < nth c i
    · rw [moreP, decide_eq_true q, if_pos rfl]
      simp [hi, hw0.idx hi, ints_head hi, more_spec, q]
      done
    · rw [moreP, decide_eq_false q, if_neg (by decide)]
      simp [hi, hw0.idx hi, ints_head hi, more_spec, q, hw, hst]
      done
theorem ix_spec {w : AV} {c : List Int} (hw0 : IsInts w c) (hcl : c.length ≤ 1001) (m : Mem) : denC prog ann 53 [w, .fn 54 [] []] m = some (.int .i64 (fstL (moreP c) c.length 0), m) := by
  have lp := ix_loop hw0 hcl m c.length 0 (by omega)
  simp only [Int.ofNat_zero, Int.cast_ofNat_Int] at lp
  rw [slices_IndexFunc_int.call_eq]
  simp [hw0.len, lp]
  done
theorem id_loop {w : AV} {c : List Int} (hw0 : IsInts w c) (hcl : c.length ≤ 1001) (x : Int) (m : Mem) : ∀ (k i : Nat), i + k = c.length →
    slices_Index_int.L0 w (.int .i64 x) (.int .i64 c.length) (.int .i64 i) m [.code slices_Index_int.r7, .code .ret] = some (.int .i64 (fstL (fun i => decide (x = nth c i)) k i), Mem.empty) := by
  intro k
  induction k with
  | zero =>
    intro i h1
    have e : i = c.length := by omega
    subst e
    rw [slices_Index_int.L0_eq]
    simp [fstL]
    done
  | succ k ih =>
    intro i h1
    have hi : i < c.length := by omega
    have hw : IntKind.wrap .i64 ((i : Int) + 1) = (i : Int) + 1 := wrap_id (by omega) (by omega)
    have hst := ih (i + 1) (by omega)
    simp only [Int.natCast_add, Int.cast_ofNat_Int] at hst
    rw [fstL_succ, slices_Index_int.L0_eq]
    by_cases q : x = nth c i
    · rw [decide_eq_true q, if_pos rfl]
      simp [hi, hw0.idx hi, ints_head hi, q]
      done
    · rw [decide_eq_false q, if_neg (by decide)]
      simp [hi, hw0.idx hi, ints_head hi, q, hw, hst]
      done
theorem fstL_mem (c : List Int) (x : Int) : decide (0 ≤ fstL (fun i => decide (x = nth c i)) c.length 0) = decide (x ∈ c) := by
  unfold fstL
  cases h : (List.range' 0 c.length).find? (fun i => decide (x = nth c i)) with
  | some d =>
    have h1 := List.find?_some h
    have h2 := List.mem_of_find?_eq_some h
    simp [List.mem_range'_1] at h1 h2
    have : x ∈ c := by rw [h1, ← nth_get h2]; exact List.getElem_mem h2
    simp [this]
  | none =>
    have h1 := List.find?_eq_none.1 h
    have : ¬ x ∈ c := fun hx => by
      obtain ⟨i, hi, e⟩ := List.getElem_of_mem hx
      rw [nth_get hi] at e
      exact h1 i (by simp [List.mem_range'_1, hi]) (by simp [e])
    simp [this]
theorem has_spec {w : AV} {c : List Int} (hw0 : IsInts w c) (hcl : c.length ≤ 1001) (x : Int) (m : Mem) : denC prog ann 49 [w, .int .i64 x] m = some (.bool (decide (x ∈ c)), m) := by
  have hcl2 : closedL [w, .int .i64 x] = true := by simp [hw0.closed]
  have lp := id_loop hw0 hcl x Mem.empty c.length 0 (by omega)
  simp only [Int.ofNat_zero, Int.cast_ofNat_Int] at lp
  have h67 : ∀ m, denC prog ann 67 [w, .int .i64 x] m = some (.int .i64 (fstL (fun i => decide (x = nth c i)) c.length 0), m) := fun m => by
    rw [slices_Index_int.call_eq _ _ _ hcl2]
    simp [hw0.len, lp]
    done
  rw [slices_Contains_int.call_eq _ _ _ hcl2]
  simp [hw0.closed, h67, fstL_mem]
  done

def twStep (l : List Int) (d : Nat) (acc : List Int) (a : Int) : List Int := if acc.length < 4 ∧ a + (d : Int) ∈ l then acc ++ [a, a + (d : Int)] else acc
theorem tw_loop {v : AV} {l : List Int} (hv : IsInts v l) (s : StrapOk l) (d : Nat) (hd : d ≤ 1001) : ∀ (k i oid : Nat) (acc : List Int) (m : Mem), i + k = l.length → OutI m oid acc → acc.length ≤ 2 * i →
    strap_Twice.L0 v (.int .i64 d) (outI oid acc) v (.int .i64 l.length) (.int .i64 i) m [.code strap_Twice.r14, .code .ret] = some (.tup [intsV ((l.drop i).foldl (twStep l d) acc), .int .i64 0], Mem.empty) := by
  have hfew := s.few
  intro k
  induction k with
  | zero =>
    intro i oid acc m h1 ho ha
    have e : i = l.length := by omega
    subst e
    have hd := outI_deep ho
    rw [strap_Twice.L0_eq]
    simp [hd]
    done
  | succ k ih =>
    intro i oid acc m h1 ho ha
    have hi : i < l.length := by omega
    have hw : IntKind.wrap .i64 ((i : Int) + 1) = (i : Int) + 1 := wrap_id (by omega) (by omega)
    have a1 := s.nonneg hi
    have a2 := s.most hi
    have hwd : IntKind.wrap .i64 (nth l i + (d : Int)) = nth l i + (d : Int) := wrap_id (by omega) (by omega)
    have hlen : lenSl (outI oid acc) = some (.int .i64 acc.length) := by
      by_cases e : acc = []
      · simp [outI, e]
      · simp [outI, e]
    have hh := fun m => has_spec hv (by omega) (nth l i + (d : Int)) m
    rw [drop_nth hi, List.foldl_cons]
    by_cases q1 : acc.length < 4
    · have q1' : (acc.length : Int) < 4 := by omega
      by_cases q2 : nth l i + (d : Int) ∈ l
      · obtain ⟨oid', m', g1, g2, g3⟩ := outI_app2 ho (by omega) (nth l i) (nth l i + (d : Int))
        have hst := ih (i + 1) oid' (acc ++ [nth l i, nth l i + (d : Int)]) m' (by omega) g2 (by simp; omega)
        simp only [Int.natCast_add, Int.cast_ofNat_Int] at hst
        rw [twStep, if_pos ⟨q1, q2⟩, strap_Twice.L0_eq]
        simp [hi, hv.idx hi, ints_head hi, hlen, q1', hwd, hv.closed, hh, q2, g1, hw, hst]
        done
      · have hst := ih (i + 1) oid acc m (by omega) ho (by omega)
        simp only [Int.natCast_add, Int.cast_ofNat_Int] at hst
        rw [twStep, if_neg (fun h => q2 h.2), strap_Twice.L0_eq]
        simp [hi, hv.idx hi, ints_head hi, hlen, q1', hwd, hv.closed, hh, q2, hw, hst]
        done
    · have q1' : ¬ (acc.length : Int) < 4 := by omega
      have hst := ih (i + 1) oid acc m (by omega) ho (by omega)
      simp only [Int.natCast_add, Int.cast_ofNat_Int] at hst
      rw [twStep, if_neg (fun h => q1 h.1), strap_Twice.L0_eq]
      simp [hi, hv.idx hi, ints_head hi, hlen, q1', hw, hst]
      done

/-- What Twice hands back. -/
inductive TwRes (l : List Int) : AV → Int → Int → Prop where
  | bad {e : Int} (h : e ≠ 0) : TwRes l .nils e e
  | none (s : StrapOk l) (h : fstL (moreP (counts l)) (counts l).length 0 < 0) : TwRes l .nils 0 5
  | ok {w : AV} {d : Nat} (s : StrapOk l) (h : fstL (moreP (counts l)) (counts l).length 0 = d) (i : IsInts w (l.foldl (twStep l d) [])) : TwRes l w 0 0
theorem fstL_lt (p : Nat → Bool) (n : Nat) : fstL p n 0 < n := by
  unfold fstL
  cases h : (List.range' 0 n).find? p with
  | some d =>
    have h2 := List.mem_of_find?_eq_some h
    simp [List.mem_range'_1] at h2
    show (d : Int) < n
    omega
  | none => show (-1 : Int) < n; omega
theorem tw_spec {v : AV} {l : List Int} (hv : IsInts v l) {e : Int} (he : StrapErr l e) (hc : ∀ m, denC prog ann 52 [v] m = some (.int .i64 e, m)) : ∃ w g, TwRes l w e g ∧ ∀ m, denC prog ann 24 [v] m = some (.tup [w, .int .i64 g], m) := by
  have hcl : closedL [v] = true := by simp [hv.closed]
  by_cases q : e = 0
  · have s : StrapOk l := by cases he <;> first | assumption | (exact absurd q (by decide))
    subst q
    have hw0 := intsV_is (counts l)
    have hix := fun m => ix_spec hw0 (counts_few s) m
    have hlt := fstL_lt (moreP (counts l)) (counts l).length
    have hfew := counts_few s
    by_cases q2 : fstL (moreP (counts l)) (counts l).length 0 < 0
    · refine ⟨_, _, .none s q2, fun m => ?_⟩
      rw [strap_Twice.call_eq _ _ hcl]
      simp [hc, hv.closed, counts_spec hv s, hix, q2]
      done
    · obtain ⟨d, hd⟩ : ∃ d : Nat, fstL (moreP (counts l)) (counts l).length 0 = d := ⟨(fstL (moreP (counts l)) (counts l).length 0).toNat, by omega⟩
      have lp := fun m => tw_loop hv s d (by omega) l.length 0 0 [] m (by omega) (fun h => absurd rfl h) (Nat.le_refl _)
      simp only [Int.ofNat_zero, Int.cast_ofNat_Int, List.drop_zero] at lp
      rw [show outI 0 [] = .nils from rfl] at lp
      refine ⟨_, _, .ok s hd (intsV_is _), fun m => ?_⟩
      rw [strap_Twice.call_eq _ _ hcl]
      simp [hc, hv.closed, counts_spec hv s, hix, hd, hv.len, lp]
      done
  · refine ⟨_, _, .bad q, fun m => ?_⟩
    rw [strap_Twice.call_eq _ _ hcl]
    simp [hc, q, hv.closed]
    done

end Go.Proofs.Ytpghadmpegncgaa

/-
  WHAT AN INPUT'S VALUE IS; equality of lists with nothing, and of truth values. Conditions: none.
-/
namespace Go.Proofs.Ytpghadmpegncgaa
open Go.AM
open Go.Proofs.Try (prog)
set_option linter.all false
set_option maxRecDepth 100000
theorem u4 : prog.underlying 4 = some .bool := by kernel_rfl
theorem u22 : prog.underlying 22 = some (.slice 3) := by kernel_rfl
@[simp] theorem eql_nils : binA prog .eql 22 .nils .nils = some (.bool true) := by simp [binA, eqT, eqA, u22]
@[simp] theorem neq_nils : binA prog .neq 22 .nils .nils = some (.bool false) := by simp [binA, eqT, eqA, u22]
@[simp] theorem eql_fsl (ex : Bool) (n : Nat) (cs : List AV) : binA prog .eql 22 (.fsl ex n cs) .nils = some (.bool false) := by simp [binA, eqT, eqA, u22]
@[simp] theorem neq_fsl (ex : Bool) (n : Nat) (cs : List AV) : binA prog .neq 22 (.fsl ex n cs) .nils = some (.bool true) := by simp [binA, eqT, eqA, u22]
@[simp] theorem eql_bool (a b : Bool) : binA prog .eql 4 (.bool a) (.bool b) = some (.bool (a == b)) := by simp [binA, eqT, eqA, u4]

/-! ### Bytes -/
theorem u5 : prog.underlying 5 = some (.int .u8) := by kernel_rfl
theorem u37 : prog.underlying 37 = some (.slice 5) := by kernel_rfl
def byteC (n : Int) : List AV := [.int .u8 n]
theorem byteC_len (l : List Int) : ∀ a ∈ l, (byteC a).length = 1 := fun _ _ => rfl
theorem dat5 {d : Nat} {cs : List AV} (h : Dat prog (d + 1) 5 cs) : ∃ n, cs = byteC n ∧ 0 ≤ n ∧ n ≤ 255 := by
  simp only [Dat, u5] at h
  obtain ⟨n, rfl, hw⟩ := h
  refine ⟨n, rfl, ?_⟩
  simp only [Lit.wf, Bool.and_eq_true, decide_eq_true_eq] at hw
  have e1 : IntKind.min .u8 = 0 := by decide
  have e2 : IntKind.max .u8 = 255 := by decide
  rw [e1, e2] at hw
  exact hw
theorem parts_list2 {α : Type} (f : α → List AV) (Q : α → Prop) : ∀ (parts : List (List AV)), (∀ p ∈ parts, ∃ a, p = f a ∧ Q a) → ∃ l : List α, l.length = parts.length ∧ parts.flatten = flatC f l ∧ ∀ a ∈ l, Q a
  | [], _ => ⟨[], rfl, rfl, fun _ h => by cases h⟩
  | p :: ps, h => by
    obtain ⟨a, e, q⟩ := h p (by simp)
    obtain ⟨l, h1, h2, h3⟩ := parts_list2 f Q ps (fun q hq => h q (by simp [hq]))
    refine ⟨a :: l, by simp [h1], by rw [List.flatten_cons, flatC_cons, e, h2], fun x hx => ?_⟩
    rcases List.mem_cons.1 hx with rfl | hx
    · exact q
    · exact h3 x hx
theorem datV37 {d : Nat} {a : AV} (h : DatV prog (d + 2) 37 a) : ∃ l, IsSl byteC a l ∧ (l.length : Int) ≤ 9223372036854775807 ∧ ∀ x ∈ l, 0 ≤ x ∧ x ≤ 255 := by
  simp only [DatV, u37] at h
  rw [Dat] at h
  simp only [u37] at h
  rcases h with h | ⟨parts, h, hl, hp⟩
  · simp at h; subst h
    exact ⟨[], .inl ⟨rfl, rfl⟩, by simp, fun _ h => by cases h⟩
  · simp at h; subst h
    obtain ⟨l, h1, h2, h3⟩ := parts_list2 byteC (fun n => 0 ≤ n ∧ n ≤ 255) parts (fun p hq => dat5 (hp p hq).2)
    refine ⟨l, .inr ⟨false, by rw [h1, h2]⟩, ?_, h3⟩
    have : maxLen = 9223372036854775807 := by decide
    omega
theorem datV5 {d : Nat} {a : AV} (h : DatV prog (d + 1) 5 a) : ∃ n, a = .int .u8 n ∧ 0 ≤ n ∧ n ≤ 255 := by
  simp only [DatV, u5] at h
  obtain ⟨n, e, hn⟩ := dat5 h
  exact ⟨n, by simpa [byteC] using e, hn⟩
end Go.Proofs.Ytpghadmpegncgaa

/-
  STRAPS (5): the specification's four loops. Conditions: none.
-/
namespace Go.Proofs.Ytpghadmpegncgaa
open Go.AM
open Go.Proofs.Try (prog)
set_option linter.all false
set_option maxRecDepth 100000
set_option maxHeartbeats 8000000

/-- The best four so far: none, or four. -/
def bestV (b : List Int) : AV := if b = [] then .nils else .fsl true b.length (ints b)
def twC (b q : List Int) : Bool := decide (b = []) || (decide (nth q 1 - nth q 0 < nth b 1 - nth b 0) || (decide (nth q 1 - nth q 0 = nth b 1 - nth b 0) && lexLt [nth q 0, nth q 2] [nth b 0, nth b 2]))
def twQ (l : List Int) (i j m n : Nat) : List Int := [nth l i, nth l j, nth l m, nth l n]
def tw7 (l : List Int) (i j m n : Nat) (b : List Int) : List Int := if nth l j - nth l i = nth l n - nth l m then (if twC b (twQ l i j m n) = true then twQ l i j m n else b) else b
def tw6 (l : List Int) (i j m k n : Nat) (b : List Int) : List Int := (List.range' n k).foldl (fun b n => tw7 l i j m n b) b
def tw4 (l : List Int) (i j k m : Nat) (b : List Int) : List Int := (List.range' m k).foldl (fun b m => tw6 l i j m (l.length - (m + 1)) (m + 1) b) b
def tw2 (l : List Int) (i k j : Nat) (b : List Int) : List Int := (List.range' j k).foldl (fun b j => tw4 l i j (l.length - (i + 1)) (i + 1) b) b
def tw0 (l : List Int) (k i : Nat) (b : List Int) : List Int := (List.range' i k).foldl (fun b i => tw2 l i (l.length - (i + 1)) (i + 1) b) b
theorem tw6_succ (l : List Int) (i j m k n : Nat) (b : List Int) : tw6 l i j m (k + 1) n b = tw6 l i j m k (n + 1) (tw7 l i j m n b) := by simp [tw6, List.range'_succ]
theorem tw4_succ (l : List Int) (i j k m : Nat) (b : List Int) : tw4 l i j (k + 1) m b = tw4 l i j k (m + 1) (tw6 l i j m (l.length - (m + 1)) (m + 1) b) := by simp [tw4, List.range'_succ]
theorem tw2_succ (l : List Int) (i k j : Nat) (b : List Int) : tw2 l i (k + 1) j b = tw2 l i k (j + 1) (tw4 l i j (l.length - (i + 1)) (i + 1) b) := by simp [tw2, List.range'_succ]
theorem tw0_succ (l : List Int) (k i : Nat) (b : List Int) : tw0 l (k + 1) i b = tw0 l k (i + 1) (tw2 l i (l.length - (i + 1)) (i + 1) b) := by simp [tw0, List.range'_succ]
/-- The best is none, or four holes. -/
def Fit (b : List Int) : Prop := b = [] ∨ ∃ p q r t : Int, b = [p, q, r, t] ∧ (0 ≤ p ∧ p ≤ 1000) ∧ (0 ≤ q ∧ q ≤ 1000) ∧ 0 ≤ r ∧ r ≤ 1000
theorem Fit.step {l : List Int} (s : StrapOk l) {b : List Int} (h : Fit b) {i j m n : Nat} (hi : i < l.length) (hj : j < l.length) (hm : m < l.length) : Fit (tw7 l i j m n b) := by
  unfold tw7
  split
  · split
    · exact .inr ⟨_, _, _, _, rfl, ⟨s.nonneg hi, s.most hi⟩, ⟨s.nonneg hj, s.most hj⟩, s.nonneg hm, s.most hm⟩
    · exact h
  · exact h
theorem Fit.six {l : List Int} (s : StrapOk l) {i j m : Nat} (hi : i < l.length) (hj : j < l.length) (hm : m < l.length) : ∀ {k n : Nat} {b : List Int}, Fit b → Fit (tw6 l i j m k n b)
  | 0, _, _, h => h
  | k + 1, n, b, h => by rw [tw6_succ]; exact (h.step s hi hj hm).six s hi hj hm
theorem Fit.four {l : List Int} (s : StrapOk l) {i j : Nat} (hi : i < l.length) (hj : j < l.length) : ∀ {k m : Nat} {b : List Int}, m + k ≤ l.length → Fit b → Fit (tw4 l i j k m b)
  | 0, _, _, _, h => h
  | k + 1, m, b, hk, h => by rw [tw4_succ]; exact (h.six s hi hj (by omega)).four s hi hj (by omega)
theorem Fit.two {l : List Int} (s : StrapOk l) {i : Nat} (hi : i < l.length) : ∀ {k j : Nat} {b : List Int}, j + k ≤ l.length → Fit b → Fit (tw2 l i k j b)
  | 0, _, _, _, h => h
  | k + 1, j, b, hk, h => by rw [tw2_succ]; exact (h.four s hi (by omega) (by omega)).two s hi (by omega)

end Go.Proofs.Ytpghadmpegncgaa

/-
  STRAPS (6): how often each distance comes, in plain terms. Conditions: none.
-/
namespace Go.Proofs.Ytpghadmpegncgaa
open Go.AM
set_option linter.all false
set_option maxRecDepth 10000
set_option maxHeartbeats 2000000

theorem cntF_nth {l : List Int} {x : Int} : ∀ {k j : Nat} {c : List Int}, (∀ q, j ≤ q → q < j + k → 0 ≤ x - nth l q ∧ x - nth l q < c.length) → ∀ g : Nat, nth (cntF l x k j c) g = nth c g + ((List.range' j k).countP fun q => decide (nth l q = x - g) : Nat)
  | 0, j, c, _, g => by simp [cntF]
  | k + 1, j, c, h, g => by
    have h0 := h j (by omega) (by omega)
    have hb : (x - nth l j).toNat < c.length := by omega
    rw [cntF_succ, cntF_nth (fun q h1 h2 => by rw [bump_len]; exact h q (by omega) (by omega)) g, nth_bump hb, List.range'_succ, List.countP_cons]
    by_cases e : g = (x - nth l j).toNat
    · have e2 : nth l j = x - (g : Int) := by omega
      have e3 := e.symm
      simp only [if_pos e, e3, decide_eq_true e2, if_true, Int.natCast_add, Int.cast_ofNat_Int]
      omega
    · have e2 : ¬ nth l j = x - (g : Int) := by omega
      simp only [if_neg e, decide_eq_false e2, Bool.false_eq_true, if_false, Nat.add_zero]
def hit (l : List Int) (g i : Nat) : Bool := (List.range' 0 i).any fun q => decide (nth l q = nth l i - g)
theorem count_one {l : List Int} (s : StrapOk l) (y : Int) : ∀ (k j : Nat), j + k ≤ l.length → ((List.range' j k).countP fun q => decide (nth l q = y)) = if ((List.range' j k).any fun q => decide (nth l q = y)) = true then 1 else 0
  | 0, _, _ => rfl
  | k + 1, j, h => by
    have ih := count_one s y k (j + 1) (by omega)
    rw [List.range'_succ, List.countP_cons, List.any_cons]
    by_cases e : nth l j = y
    · have z : ((List.range' (j + 1) k).countP fun q => decide (nth l q = y)) = 0 := by
        rw [List.countP_eq_zero]
        intro q hq
        simp [List.mem_range'_1] at hq ⊢
        have := s.lt (show j < q by omega) (by omega)
        omega
      simp [e, z]
    · rw [ih, decide_eq_false e, Bool.false_or]; simp only [Bool.false_eq_true, if_false, Nat.add_zero]
theorem cntO_nth {l : List Int} (s : StrapOk l) : ∀ {k i : Nat} {c : List Int}, i + k ≤ l.length → c.length = (top l + 1).toNat → ∀ g : Nat, nth (cntO l k i c) g = nth c g + ((List.range' i k).countP (hit l g) : Nat)
  | 0, i, c, _, _, g => by simp [cntO]
  | k + 1, i, c, h, hc, g => by
    have hi : i < l.length := by omega
    rw [cntO_succ, cntO_nth s (by omega) (by rw [cntF_len, hc]) g, cntF_nth (fun q _ h2 => by
      have a := s.lt (show q < i by omega) hi
      have b := s.nonneg (i := q) (by omega)
      have d := s.le (show i ≤ l.length - 1 by omega) (by omega)
      unfold top at hc
      omega) g, count_one s _ i 0 (by omega), List.range'_succ, List.countP_cons]
    show _ = nth c g + ((_ + if hit l g i = true then 1 else 0 : Nat) : Int)
    unfold hit
    split <;> simp <;> omega
theorem counts_nth {l : List Int} (s : StrapOk l) (g : Nat) : nth (counts l) g = ((List.range' 0 l.length).countP (hit l g) : Nat) := by
  have := s.nonneg (i := l.length - 1) (by have := s.pos; omega)
  rw [counts, cntO_nth s (by omega) (by simp) g, nth_zero']; simp
theorem hit_zero {l : List Int} (s : StrapOk l) {i : Nat} (hi : i < l.length) : hit l 0 i = false := by
  unfold hit
  rw [List.any_eq_false]
  intro q hq
  simp [List.mem_range'_1] at hq ⊢
  have := s.lt hq hi
  omega
theorem hit_mem {l : List Int} (s : StrapOk l) {i : Nat} (hi : i < l.length) {g : Nat} (hg : 0 < g) : hit l g i = decide (nth l i - (g : Int) ∈ l) := by
  unfold hit
  rw [Bool.eq_iff_iff, List.any_eq_true, decide_eq_true_eq]
  constructor
  · rintro ⟨q, h1, h2⟩
    simp [List.mem_range'_1] at h1 h2
    rw [← h2, ← nth_get (show q < l.length by omega)]; exact List.getElem_mem _
  · intro h
    obtain ⟨q, h1, h2⟩ := List.getElem_of_mem h
    rw [nth_get h1] at h2
    refine ⟨q, ?_, by simpa using h2⟩
    simp [List.mem_range'_1]
    rcases Nat.lt_or_ge q i with h3 | h3
    · exact h3
    · have := s.le h3 h1; omega
theorem map_nth (l : List Int) : (List.range' 0 l.length).map (nth l) = l := by
  refine List.ext_getElem (by simp) fun i h1 h2 => ?_
  simp [nth_get h2]
def D (l : List Int) (g : Nat) : Nat := l.countP fun a => decide (a - (g : Int) ∈ l)
def U (l : List Int) (g : Nat) : Nat := l.countP fun a => decide (a + (g : Int) ∈ l)
theorem counts_zero {l : List Int} (s : StrapOk l) : nth (counts l) 0 = 0 := by
  rw [counts_nth s]
  have : (List.range' 0 l.length).countP (hit l 0) = 0 := by
    rw [List.countP_eq_zero]
    intro q hq
    simp [List.mem_range'_1] at hq
    rw [hit_zero s hq]; simp
  rw [this]; rfl
theorem counts_D {l : List Int} (s : StrapOk l) {g : Nat} (hg : 0 < g) : nth (counts l) g = D l g := by
  rw [counts_nth s, D]
  conv => rhs; rw [← map_nth l]
  rw [List.countP_map]
  refine congrArg _ (List.countP_congr fun i hi => ?_)
  simp [List.mem_range'_1] at hi
  rw [hit_mem s hi hg]
  simp [map_nth l]
theorem StrapOk.sorted {l : List Int} (s : StrapOk l) : l.Pairwise (· < ·) := by
  rw [List.pairwise_iff_getElem]
  intro i j h1 h2 h
  rw [nth_get h1, nth_get h2]
  exact s.lt h h2
theorem lt_nodup {l : List Int} (h : l.Pairwise (· < ·)) : l.Nodup := h.imp fun h => by omega
theorem D_U {l : List Int} (s : StrapOk l) (g : Nat) : D l g = U l g := by
  rw [D, U, List.countP_eq_length_filter, List.countP_eq_length_filter, ← List.length_map (f := fun a => a - (g : Int))]
  refine List.Perm.length_eq ((List.perm_ext_iff_of_nodup (lt_nodup ?_) (lt_nodup (s.sorted.filter _))).2 fun a => ?_)
  · exact (s.sorted.filter _).map _ fun a b h => by show a - (g : Int) < b - (g : Int); omega
  · simp only [List.mem_map, List.mem_filter, decide_eq_true_eq]
    constructor
    · rintro ⟨x, ⟨h1, h2⟩, rfl⟩
      exact ⟨h2, by rwa [show x - (g : Int) + g = x by omega]⟩
    · rintro ⟨h1, h2⟩
      exact ⟨a + g, ⟨h2, by rwa [show a + (g : Int) - g = a by omega]⟩, by omega⟩
theorem counts_U {l : List Int} (s : StrapOk l) {g : Nat} (hg : 0 < g) : nth (counts l) g = U l g := by rw [counts_D s hg, D_U s]
end Go.Proofs.Ytpghadmpegncgaa

/-
  STRAPS (7): the first four holes with one distance are those that the four loops find. Conditions: none.
-/
namespace Go.Proofs.Ytpghadmpegncgaa
open Go.AM
set_option linter.all false
set_option maxRecDepth 10000
set_option maxHeartbeats 2000000

def key (q : List Int) : List Int := [nth q 1 - nth q 0, nth q 0, nth q 2]
def Val (l : List Int) (i j m n : Nat) : Prop := nth l j - nth l i = nth l n - nth l m
theorem twC_key (b q : List Int) : twC b q = (decide (b = []) || lexLt (key q) (key b)) := by
  simp only [twC, key, lexLt]
  by_cases h : nth q 1 - nth q 0 = nth b 1 - nth b 0
  · simp [h]
  · simp [h]
/-- The best of what was seen. -/
def BestOk (l : List Int) (S : Nat → Nat → Nat → Nat → Prop) (b : List Int) : Prop :=
  (b = [] ∨ ∃ i j m n, S i j m n ∧ Val l i j m n ∧ b = twQ l i j m n) ∧ ∀ i j m n, S i j m n → Val l i j m n → b ≠ [] ∧ lexLt (key (twQ l i j m n)) (key b) = false
theorem BestOk.congr {l : List Int} {S S' : Nat → Nat → Nat → Nat → Prop} {b : List Int} (h : BestOk l S b) (e : ∀ i j m n, S i j m n ↔ S' i j m n) : BestOk l S' b := by
  have : S = S' := by funext i j m n; exact propext (e i j m n)
  rwa [← this]
theorem BestOk.step {l : List Int} {S : Nat → Nat → Nat → Nat → Prop} {b : List Int} (h : BestOk l S b) (i j m n : Nat) : BestOk l (fun i' j' m' n' => S i' j' m' n' ∨ (i' = i ∧ j' = j ∧ m' = m ∧ n' = n)) (tw7 l i j m n b) := by
  unfold tw7
  by_cases v : nth l j - nth l i = nth l n - nth l m
  · rw [if_pos v, twC_key]
    cases t : (decide (b = []) || lexLt (key (twQ l i j m n)) (key b)) with
    | true =>
      rw [if_pos rfl]
      refine ⟨.inr ⟨i, j, m, n, .inr ⟨rfl, rfl, rfl, rfl⟩, v, rfl⟩, ?_⟩
      rintro i' j' m' n' (hs | ⟨rfl, rfl, rfl, rfl⟩) v'
      · refine ⟨by simp [twQ], ?_⟩
        obtain ⟨h1, h2⟩ := h.2 i' j' m' n' hs v'
        rw [decide_eq_false h1, Bool.false_or] at t
        cases q : lexLt (key (twQ l i' j' m' n')) (key (twQ l i j m n)) with
        | false => rfl
        | true => rw [lex_trans q t] at h2; cases h2
      · exact ⟨by simp [twQ], lexLt_irr _⟩
    | false =>
      rw [if_neg (by decide)]
      simp only [Bool.or_eq_false_iff, decide_eq_false_iff_not] at t
      refine ⟨h.1.imp id (fun ⟨i', j', m', n', a, b⟩ => ⟨i', j', m', n', .inl a, b⟩), ?_⟩
      rintro i' j' m' n' (hs | ⟨rfl, rfl, rfl, rfl⟩) v'
      · exact h.2 i' j' m' n' hs v'
      · exact t
  · rw [if_neg v]
    refine ⟨h.1.imp id (fun ⟨i', j', m', n', a, b⟩ => ⟨i', j', m', n', .inl a, b⟩), ?_⟩
    rintro i' j' m' n' (hs | ⟨rfl, rfl, rfl, rfl⟩) v'
    · exact h.2 i' j' m' n' hs v'
    · exact absurd v' v
theorem BestOk.six {l : List Int} (i j m : Nat) : ∀ (k n : Nat) {S : Nat → Nat → Nat → Nat → Prop} {b : List Int}, BestOk l S b → BestOk l (fun i' j' m' n' => S i' j' m' n' ∨ (i' = i ∧ j' = j ∧ m' = m ∧ n ≤ n' ∧ n' < n + k)) (tw6 l i j m k n b)
  | 0, n, S, b, h => h.congr fun i' j' m' n' => ⟨.inl, fun h => h.elim id fun h => by omega⟩
  | k + 1, n, S, b, h => by
    rw [tw6_succ]
    refine ((h.step i j m n).six i j m k (n + 1)).congr fun i' j' m' n' => ⟨?_, ?_⟩
    · rintro ((h | h) | h)
      · exact .inl h
      · exact .inr (by omega)
      · exact .inr (by omega)
    · rintro (h | h)
      · exact .inl (.inl h)
      · by_cases e : n' = n
        · exact .inl (.inr (by omega))
        · exact .inr (by omega)
theorem BestOk.four {l : List Int} (i j : Nat) : ∀ (k m : Nat) {S : Nat → Nat → Nat → Nat → Prop} {b : List Int}, m + k ≤ l.length → BestOk l S b → BestOk l (fun i' j' m' n' => S i' j' m' n' ∨ (i' = i ∧ j' = j ∧ (m ≤ m' ∧ m' < m + k) ∧ m' < n' ∧ n' < l.length)) (tw4 l i j k m b)
  | 0, m, S, b, _, h => h.congr fun i' j' m' n' => ⟨.inl, fun h => h.elim id fun h => by omega⟩
  | k + 1, m, S, b, hk, h => by
    rw [tw4_succ]
    refine (BestOk.four i j k (m + 1) (by omega) (h.six i j m (l.length - (m + 1)) (m + 1))).congr fun i' j' m' n' => ⟨?_, ?_⟩
    · rintro ((h | h) | h)
      · exact .inl h
      · exact .inr (by omega)
      · exact .inr (by omega)
    · rintro (h | h)
      · exact .inl (.inl h)
      · by_cases e : m' = m
        · exact .inl (.inr (by omega))
        · exact .inr (by omega)
theorem BestOk.two {l : List Int} (i : Nat) (hi : i < l.length) : ∀ (k j : Nat) {S : Nat → Nat → Nat → Nat → Prop} {b : List Int}, j + k ≤ l.length → BestOk l S b → BestOk l (fun i' j' m' n' => S i' j' m' n' ∨ (i' = i ∧ (j ≤ j' ∧ j' < j + k) ∧ i < m' ∧ m' < n' ∧ n' < l.length)) (tw2 l i k j b)
  | 0, j, S, b, _, h => h.congr fun i' j' m' n' => ⟨.inl, fun h => h.elim id fun h => by omega⟩
  | k + 1, j, S, b, hk, h => by
    rw [tw2_succ]
    refine (BestOk.two i hi k (j + 1) (by omega) (h.four i j (l.length - (i + 1)) (i + 1) (by omega))).congr fun i' j' m' n' => ⟨?_, ?_⟩
    · rintro ((h | h) | h)
      · exact .inl h
      · exact .inr (by omega)
      · exact .inr (by omega)
    · rintro (h | h)
      · exact .inl (.inl h)
      · by_cases e : j' = j
        · exact .inl (.inr (by omega))
        · exact .inr (by omega)
theorem BestOk.zero {l : List Int} : ∀ (k i : Nat) {S : Nat → Nat → Nat → Nat → Prop} {b : List Int}, i + k ≤ l.length → BestOk l S b → BestOk l (fun i' j' m' n' => S i' j' m' n' ∨ ((i ≤ i' ∧ i' < i + k) ∧ (i' < j' ∧ j' < l.length) ∧ i' < m' ∧ m' < n' ∧ n' < l.length)) (tw0 l k i b)
  | 0, i, S, b, _, h => h.congr fun i' j' m' n' => ⟨.inl, fun h => h.elim id fun h => by omega⟩
  | k + 1, i, S, b, hk, h => by
    rw [tw0_succ]
    refine (BestOk.zero k (i + 1) (by omega) (h.two i (by omega) (l.length - (i + 1)) (i + 1) (by omega))).congr fun i' j' m' n' => ⟨?_, ?_⟩
    · rintro ((h | h) | h)
      · exact .inl h
      · exact .inr (by omega)
      · exact .inr (by omega)
    · rintro (h | h)
      · exact .inl (.inl h)
      · by_cases e : i' = i
        · exact .inl (.inr (by omega))
        · exact .inr (by omega)
def Quad (l : List Int) (i j m n : Nat) : Prop := (i < j ∧ j < l.length) ∧ i < m ∧ m < n ∧ n < l.length
theorem nth_mem {l : List Int} {i : Nat} (h : i < l.length) : nth l i ∈ l := by rw [← nth_get h]; exact List.getElem_mem h
theorem fstL_none {p : Nat → Bool} {n : Nat} (h : fstL p n 0 < 0) : ∀ i, i < n → p i = false := by
  unfold fstL at h
  cases e : (List.range' 0 n).find? p with
  | some d => rw [e] at h; exact absurd h (by show ¬ (d : Int) < 0; omega)
  | none =>
    intro i hi
    have := List.find?_eq_none.1 e i (by simp [List.mem_range'_1, hi])
    simpa using this
theorem fstL_some {p : Nat → Bool} : ∀ {n i d : Nat}, fstL p n i = d → i ≤ d ∧ d < i + n ∧ p d = true ∧ ∀ j, i ≤ j → j < d → p j = false
  | 0, i, d, h => by have : (-1 : Int) = d := h; omega
  | n + 1, i, d, h => by
    rw [fstL_succ] at h
    by_cases q : p i = true
    · rw [if_pos q] at h
      have : i = d := by omega
      subst this
      exact ⟨by omega, by omega, q, fun j h1 h2 => by omega⟩
    · rw [if_neg q] at h
      obtain ⟨h1, h2, h3, h4⟩ := fstL_some h
      refine ⟨by omega, by omega, h3, fun j h5 h6 => ?_⟩
      by_cases e : j = i
      · subst e; simpa using q
      · exact h4 j (by omega) h6
end Go.Proofs.Ytpghadmpegncgaa

/-
  BODIES OF FUNCTIONS OF THE PROGRAM AS SMALL OPERATIONS (written by gen.py; checked by the kernel against the program). Conditions: none.
-/
namespace Go.Proofs.Ytpghadmpegncgaa
open Go.AM
open Go.Proofs.Try (prog)
set_option maxRecDepth 100000
set_option linter.all false

namespace l04_holes
/-- pommel/pommellaw04.holes -/
noncomputable def b : Code := (Try.f30.body).getD .skip
theorem hf : prog.funcs[30]? = some Try.f30 := by kernel_rfl
noncomputable def r0 : Code := findReg b 0
noncomputable def r1 : Code := findReg b 1
noncomputable def r2 : Code := findReg b 2
noncomputable def k0 : Code := findBlk b 0
noncomputable def l0 : Code := loopOf k0
noncomputable def L0 (x0 x3 x4 : AV) (m : Mem) (K : List Item) : Option Res := den prog ann 30 (.code l0 :: .inLoop l0 :: .inBlock 0 :: K) ⟨[(0, x0), (3, x3), (4, x4)], 35, m⟩
noncomputable def r3 : Code := findReg b 3
noncomputable def i0 : Code := findCond b 0
noncomputable def i0t : Code := thenOf i0
noncomputable def i0e : Code := elseOf i0
noncomputable def k1 : Code := findBlk b 1
noncomputable def r5 : Code := findReg b 5
noncomputable def r4 : Code := findReg b 4
noncomputable def r6 : Code := findReg b 6
theorem b_eq (K : List Item) (s : St) : den prog ann 30 (.code b :: K) s = den prog ann 30 (.code r0 :: .code r1 :: .code r2 :: .code k0 :: .code r6 :: .code .ret :: K) s := den_flat hf (l := [r0, r1, r2, k0, r6, .ret]) (by kernel_rfl) K s
theorem r0_eq (K : List Item) (s : St) : den prog ann 30 (.code r0 :: K) s = mreg prog ann 30 none [] none [] [
    ⟨some 2, none, .v fun s => some (.nils)⟩] K s := (den_reg hf _ K s).trans (by kernel_rfl)
theorem r1_eq (K : List Item) (s : St) : den prog ann 30 (.code r1 :: K) s = mreg prog ann 30 none [] none [] [
    ⟨some 5, none, .w false none fun s => bslM s.m 1 (bslA 1 1 [.int .i64 0] [(0, (.int .i64 0))])⟩,
    ⟨some 3, none, .v fun s => some (s.get 5)⟩] K s := (den_reg hf _ K s).trans (by kernel_rfl)
theorem r2_eq (K : List Item) (s : St) : den prog ann 30 (.code r2 :: K) s = mreg prog ann 30 none [] none [] [
    ⟨some 4, none, .v fun s => some (.int .i64 0)⟩] K s := (den_reg hf _ K s).trans (by kernel_rfl)
theorem k0_eq (K : List Item) (t : List (Nat × AV)) (m : Mem) : den prog ann 30 (.code k0 :: K) ⟨t, 35, m⟩ = L0 (get t 0) (get t 3) (get t 4) m K := den_loop_enter hf (b := l0) (id := 3) (l := [0, 3, 4]) (by kernel_rfl) (by kernel_rfl) (by kernel_rfl) K _
theorem l0_eq (K : List Item) (t : List (Nat × AV)) (m : Mem) : den prog ann 30 (.inLoop l0 :: .inBlock 0 :: K) ⟨t, 35, m⟩ = L0 (get t 0) (get t 3) (get t 4) m K := den_loop_again hf (id := 3) (l := [0, 3, 4]) (by kernel_rfl) (by kernel_rfl) (.inBlock 0 :: K) _
theorem L0_eq (x0 x3 x4 : AV) (m : Mem) (K : List Item) : L0 x0 x3 x4 m K = den prog ann 30 (.code r3 :: .code i0 :: .code k1 :: .code r4 :: .inLoop l0 :: .inBlock 0 :: K) ⟨[(0, x0), (3, x3), (4, x4)], 35, m⟩ := den_flat hf (l := [r3, i0, k1, r4]) (by kernel_rfl) _ _
theorem r3_eq (K : List Item) (s : St) : den prog ann 30 (.code r3 :: K) s = mreg prog ann 30 (some [0, 3, 4]) [] none [] [
    ⟨some 6, none, .v fun s => some (s.get 4)⟩,
    ⟨some 7, none, .v fun s => some (s.get 0)⟩,
    ⟨some 8, none, .v fun s => lenSl (s.get 7)⟩,
    ⟨some 9, none, .v fun s => binA prog .lss 3 (s.get 6) (s.get 8)⟩,
    ⟨some 10, none, .v fun s => some (s.get 9)⟩,
    ⟨some 11, some (10, true), .v fun s => some (s.get 3)⟩,
    ⟨some 12, some (10, true), .v fun s => lenSl (s.get 11)⟩,
    ⟨some 13, some (10, true), .v fun s => binA prog .lss 3 (s.get 12) (.int .i64 12)⟩,
    ⟨some 14, none, .v fun s => pickA (s.get 10) (s.get 13) (.bool false)⟩] K s := (den_reg hf _ K s).trans (by kernel_rfl)
theorem i0_eq (K : List Item) (s : St) : den prog ann 30 (.code i0 :: K) s = ifV prog ann 30 14 i0t i0e K s (s.get 14) := den_if hf (by kernel_rfl) K s
theorem i0t_eq (K : List Item) (s : St) : den prog ann 30 (.code i0t :: K) s = den prog ann 30 (K) s := den_flat hf (l := []) (by kernel_rfl) K s
theorem i0e_eq (K : List Item) (s : St) : den prog ann 30 (.code i0e :: K) s = den prog ann 30 (.code (.exit 0) :: K) s := den_flat hf (l := [(.exit 0)]) (by kernel_rfl) K s
theorem k1_eq (K : List Item) (s : St) : den prog ann 30 (.code k1 :: K) s = den prog ann 30 (.code r5 :: .inBlock 1 :: K) s := den_blk hf (b := blkOf k1) (l := [r5]) (by kernel_rfl) (by kernel_rfl) K s
theorem r5_draw : drawOk (fun g => (ann g).pure) (modeOf (ann 30) (idOf r5)) (frzOf (ann 30) (idOf r5)) (opsOf r5) = true := drawOk_of (an := [0, 0, 0, 4, 12, 30, 62, 0, 0, 384, 896, 1920, 3968, 8190, 16382, 32766, 65535, 131071]) (by kernel_rfl) (by kernel_rfl)
theorem r5_eq (K : List Item) (s : St) : den prog ann 30 (.code r5 :: K) s = mreg prog ann 30 none [] (some 18) [] [
    ⟨some 17, none, .v fun s => some (s.get 3)⟩,
    ⟨some 18, none, .v fun s => some (s.get 3)⟩,
    ⟨some 19, none, .v fun s => some (s.get 3)⟩,
    ⟨some 20, none, .v fun s => lenSl (s.get 19)⟩,
    ⟨some 21, none, .v fun s => binA prog .sub 3 (s.get 20) (.int .i64 1)⟩,
    ⟨some 22, none, .v fun s => idxSl 1 (s.get 18) (s.get 21)⟩,
    ⟨some 23, none, .v fun s => loadA false 1 s.m (s.get 22)⟩,
    ⟨some 24, none, .v fun s => some (s.get 0)⟩,
    ⟨some 25, none, .v fun s => some (s.get 4)⟩,
    ⟨some 26, none, .v fun s => idxSl 1 (s.get 24) (s.get 25)⟩,
    ⟨some 27, none, .v fun s => loadF false 1 (s.get 26)⟩,
    ⟨some 28, none, .v fun s => convInt .i64 (s.get 27)⟩,
    ⟨some 29, none, .v fun s => binA prog .rem 3 (s.get 28) (.int .i64 20)⟩,
    ⟨some 30, none, .v fun s => binA prog .add 3 (s.get 23) (s.get 29)⟩,
    ⟨some 31, none, .v fun s => binA prog .add 3 (s.get 30) (.int .i64 1)⟩,
    ⟨some 32, none, .v fun s => bslF 1 (bslA 1 1 [.int .i64 0] [(0, (s.get 31))])⟩,
    ⟨some 33, none, .w false (some 16) fun s => appendA 1 8 s.m (s.get 17) (s.get 32)⟩,
    ⟨some 3, none, .v fun s => some (s.get 33)⟩] K s := (den_regD hf r5_draw K s).trans (by kernel_rfl)
theorem r4_eq (K : List Item) (s : St) : den prog ann 30 (.code r4 :: K) s = mreg prog ann 30 (some [0, 3, 4]) [] none [] [
    ⟨some 15, none, .v fun s => some (s.get 4)⟩,
    ⟨some 16, none, .v fun s => binA prog .add 3 (s.get 15) (.int .i64 1)⟩,
    ⟨some 4, none, .v fun s => some (s.get 16)⟩] K s := (den_reg hf _ K s).trans (by kernel_rfl)
theorem r6_eq (K : List Item) (s : St) : den prog ann 30 (.code r6 :: K) s = mreg prog ann 30 (some [3]) [] none [] [
    ⟨some 34, none, .v fun s => some (s.get 3)⟩,
    ⟨some 2, none, .v fun s => some (s.get 34)⟩] K s := (den_reg hf _ K s).trans (by kernel_rfl)
theorem ret_eq (K : List Item) (s : St) : den prog ann 30 (.code .ret :: K) s = finM true [fun s => some (s.get 2)] s := (den_ret hf K s).trans (by kernel_rfl)
theorem nil_eq (s : St) : den prog ann 30 [] s = finM true [fun s => some (s.get 2)] s := (den_nil hf s).trans (by kernel_rfl)
theorem inBlock_eq (id : Nat) (K : List Item) (s : St) : den prog ann 30 (.inBlock id :: K) s = den prog ann 30 K s := den_inBlock hf id K s
theorem exit_eq (id : Nat) (K : List Item) (s : St) : den prog ann 30 (.code (.exit id) :: K) s = exitV prog ann 30 (exitTo id K) s := den_exitV hf id K s
theorem call_eq (v0 : AV) (m : Mem) (h : closedL [v0] = true) : denC prog ann 30 [v0] m = (den prog ann 30 [.code b] ⟨[(0, v0)], 35, Mem.empty⟩).bind fun r => some (r.1, m) := (denC_pure hf (b := b) (by kernel_rfl) (by kernel_rfl) (by kernel_rfl) h m).trans (by kernel_rfl)
theorem pure_eq : (ann 30).pure = true := by kernel_rfl
attribute [simp] b_eq r0_eq r1_eq r2_eq k0_eq l0_eq r3_eq i0_eq i0t_eq i0e_eq k1_eq r5_eq r4_eq r6_eq ret_eq nil_eq inBlock_eq exit_eq pure_eq
end l04_holes

end Go.Proofs.Ytpghadmpegncgaa

/-
  STRAPS (8): holes from bytes, and holes counted from the other end. Conditions: none.
-/
namespace Go.Proofs.Ytpghadmpegncgaa
open Go.AM
open Go.Proofs.Try (prog)
set_option linter.all false
set_option maxRecDepth 100000
set_option maxHeartbeats 4000000

theorem nth_last (l : List Int) (x : Int) : nth (l ++ [x]) l.length = x := by rw [nth_append, if_neg (by omega)]; simp [nth]
theorem StrapOk.more {l : List Int} (s : StrapOk l) (h : l.length < 40) {x : Int} (h1 : Go.Proofs.Ytpghadmpegncgaa.top l < x) (h2 : x ≤ 1000) : StrapOk (l ++ [x]) where
  pos := by simp
  few := by simp; omega
  zero := by have := s.pos; rw [nth_append, if_pos this, s.zero]
  asc := fun i hi => by
    simp at hi
    by_cases e : i + 1 < l.length
    · rw [nth_append, nth_append, if_pos (by omega), if_pos e]; exact s.asc i e
    · have e2 : i + 1 = l.length := by omega
      rw [e2, nth_last, nth_append, if_pos (by omega), show i = l.length - 1 by omega]
      exact h1
  top := by simp only [List.length_append, List.length_singleton, Nat.add_sub_cancel]; rw [nth_last]; exact h2
theorem holes_loop {v : AV} {bs : List Int} (hv : IsSl byteC v bs) (hb : ∀ x ∈ bs, 0 ≤ x ∧ x ≤ 255) (oid : Nat) : ∀ (k i : Nat) (acc : List Int) (m : Mem), k + acc.length = 12 → acc.length = i + 1 → StrapOk acc → top acc ≤ 20 * i → m.h oid = some (.cells (ints acc)) →
    ∃ l : List Int, (StrapOk l ∧ l.length ≤ 12) ∧ l04_holes.L0 v (.sl oid 1 0 acc.length acc.length) (.int .i64 i) m [.code l04_holes.r6, .code .ret] = some (.fsl false l.length (ints l), Mem.empty) := by
  intro k
  induction k with
  | zero =>
    intro i acc m h1 h2 s ht hm
    refine ⟨acc, ⟨s, by omega⟩, ?_⟩
    have hl : (acc.length : Int) = 12 := by omega
    rw [l04_holes.L0_eq]
    by_cases q : i < bs.length
    · simp [hv.len, q, hl, hm]
      done
    · simp [hv.len, q, hm]
      done
  | succ k ih =>
    intro i acc m h1 h2 s ht hm
    by_cases q : i < bs.length
    · have hl : (acc.length : Int) < 12 := by omega
      have hw : IntKind.wrap .i64 ((i : Int) + 1) = (i : Int) + 1 := wrap_id (by omega) (by omega)
      have hwl : IntKind.wrap .i64 ((acc.length : Int) - 1) = ((acc.length - 1 : Nat) : Int) := by rw [wrap_id (by omega) (by omega)]; omega
      have hlast : acc.length - 1 < acc.length := by omega
      obtain ⟨b, hbi⟩ : ∃ b, bs[i]? = some b := ⟨bs[i], List.getElem?_eq_getElem q⟩
      obtain ⟨b0, b1⟩ := hb b (List.mem_of_getElem? hbi)
      have hix := hv.idx (byteC_len bs) q .i64
      have hfl : flatC byteC (bs.drop i) = .int .u8 b :: flatC byteC (bs.drop (i + 1)) := flatC_at hbi
      have hcv : IntKind.wrap .i64 b = b := wrap_id (by omega) (by omega)
      have hr : b.tmod 20 = b % 20 := Int.tmod_eq_emod_of_nonneg b0
      have hr2 : 0 ≤ b % 20 ∧ b % 20 < 20 := by omega
      have t0 := s.nonneg hlast
      have t1 := s.top
      unfold top at ht
      have hw2 : IntKind.wrap .i64 (nth acc (acc.length - 1) + b % 20) = nth acc (acc.length - 1) + b % 20 := wrap_id (by omega) (by omega)
      have hw3 : IntKind.wrap .i64 (nth acc (acc.length - 1) + b % 20 + 1) = nth acc (acc.length - 1) + b % 20 + 1 := wrap_id (by omega) (by omega)
      have hx : ints acc ++ [AV.int .i64 (nth acc (acc.length - 1) + b % 20 + 1)] = ints (acc ++ [nth acc (acc.length - 1) + b % 20 + 1]) := by simp [ints]
      obtain ⟨l, g1, g2⟩ := ih (i + 1) (acc ++ [nth acc (acc.length - 1) + b % 20 + 1]) ⟨upd m.h oid (some (.cells (ints (acc ++ [nth acc (acc.length - 1) + b % 20 + 1])))), m.nx + 18⟩ (by simp; omega) (by simp; omega) (s.more (by omega) (by unfold Go.Proofs.Ytpghadmpegncgaa.top; omega) (by omega)) (by unfold top; simp only [List.length_append, List.length_singleton, Nat.add_sub_cancel]; rw [nth_last]; omega) (by simp)
      simp only [Int.natCast_add, Int.cast_ofNat_Int, List.length_append, List.length_singleton] at g2
      refine ⟨l, g1, ?_⟩
      rw [← g2, l04_holes.L0_eq]
      simp [hv.len, q, hl, hwl, hm, hlast, hix, hfl, hcv, hr, hw2, hw3, hx, Mem.set, hw, show acc.length ≤ 4611686018427387903 by omega, show (acc.length + 1) * 8 ≤ 70368744177664 by omega]
      done
    · refine ⟨acc, ⟨s, by omega⟩, ?_⟩
      rw [l04_holes.L0_eq]
      simp [hv.len, q, hm]
      done
theorem holes_spec {v : AV} {bs : List Int} (hv : IsSl byteC v bs) (hb : ∀ x ∈ bs, 0 ≤ x ∧ x ≤ 255) : ∃ w l, IsInts w l ∧ (StrapOk l ∧ l.length ≤ 12) ∧ ∀ m, denC prog ann 30 [v] m = some (w, m) := by
  have hcl : closedL [v] = true := by simp [hv.closed]
  obtain ⟨l, g1, g2⟩ := holes_loop hv hb 0 11 0 [0] ⟨upd Mem.empty.h 0 (some (.cells (ints [0]))), 1⟩ rfl rfl ⟨by decide, by decide, rfl, fun i hi => by simp at hi, by decide⟩ (by decide) (by simp)
  refine ⟨_, l, .inr ⟨false, rfl⟩, g1, fun m => ?_⟩
  simp at g2
  rw [l04_holes.call_eq _ _ hcl]
  simp [g2]
  done

/-! ### Holes counted from the other end -/
def mirL (l : List Int) : List Int := (l.map fun a => top l - a).reverse
end Go.Proofs.Ytpghadmpegncgaa

/-
  BODIES OF FUNCTIONS OF THE PROGRAM AS SMALL OPERATIONS (written by gen.py; checked by the kernel against the program). Conditions: none.
-/
namespace Go.Proofs.Ytpghadmpegncgaa
open Go.AM
open Go.Proofs.Try (prog)
set_option maxRecDepth 100000
set_option linter.all false

namespace strap_Single
/-- pommel/strap.Single -/
noncomputable def b : Code := (Try.f13.body).getD .skip
theorem hf : prog.funcs[13]? = some Try.f13 := by kernel_rfl
noncomputable def r0 : Code := findReg b 0
noncomputable def r1 : Code := findReg b 1
noncomputable def i0 : Code := findCond b 0
noncomputable def i0t : Code := thenOf i0
noncomputable def i0e : Code := elseOf i0
noncomputable def r2 : Code := findReg b 2
noncomputable def r3 : Code := findReg b 3
noncomputable def k0 : Code := findBlk b 0
noncomputable def l0 : Code := loopOf k0
noncomputable def L0 (x0 x4 : AV) (m : Mem) (K : List Item) : Option Res := den prog ann 13 (.code l0 :: .inLoop l0 :: .inBlock 0 :: K) ⟨[(0, x0), (4, x4)], 31, m⟩
noncomputable def k1 : Code := findBlk b 1
noncomputable def r5 : Code := findReg b 5
noncomputable def r6 : Code := findReg b 6
noncomputable def r7 : Code := findReg b 7
noncomputable def i1 : Code := findCond b 1
noncomputable def i1t : Code := thenOf i1
noncomputable def i1e : Code := elseOf i1
noncomputable def r8 : Code := findReg b 8
noncomputable def r9 : Code := findReg b 9
noncomputable def r10 : Code := findReg b 10
noncomputable def r4 : Code := findReg b 4
theorem b_eq (K : List Item) (s : St) : den prog ann 13 (.code b :: K) s = den prog ann 13 (.code r0 :: .code r1 :: .code i0 :: .code r3 :: .code k0 :: K) s := den_flat hf (l := [r0, r1, i0, r3, k0]) (by kernel_rfl) K s
theorem r0_eq (K : List Item) (s : St) : den prog ann 13 (.code r0 :: K) s = mreg prog ann 13 none [] none [] [
    ⟨some 2, none, .v fun s => some (.nils)⟩,
    ⟨some 3, none, .v fun s => some (.int .i64 0)⟩] K s := (den_reg hf _ K s).trans (by kernel_rfl)
theorem r1_eq (K : List Item) (s : St) : den prog ann 13 (.code r1 :: K) s = mreg prog ann 13 none [] none [] [
    ⟨some 7, none, .v fun s => some (s.get 0)⟩,
    ⟨some 8, none, .v fun s => binA prog .lss 3 (s.get 7) (.int .i64 1)⟩,
    ⟨some 9, none, .v fun s => some (s.get 8)⟩,
    ⟨some 10, some (9, false), .v fun s => some (s.get 0)⟩,
    ⟨some 11, some (9, false), .v fun s => binA prog .gtr 3 (s.get 10) (.int .i64 7)⟩,
    ⟨some 12, none, .v fun s => pickA (s.get 9) (.bool true) (s.get 11)⟩] K s := (den_reg hf _ K s).trans (by kernel_rfl)
theorem i0_eq (K : List Item) (s : St) : den prog ann 13 (.code i0 :: K) s = ifV prog ann 13 12 i0t i0e K s (s.get 12) := den_if hf (by kernel_rfl) K s
theorem i0t_eq (K : List Item) (s : St) : den prog ann 13 (.code i0t :: K) s = den prog ann 13 (.code r2 :: .code .ret :: K) s := den_flat hf (l := [r2, .ret]) (by kernel_rfl) K s
theorem r2_eq (K : List Item) (s : St) : den prog ann 13 (.code r2 :: K) s = mreg prog ann 13 none [] none [] [
    ⟨some 2, none, .v fun s => some (.nils)⟩,
    ⟨some 3, none, .v fun s => some (.int .i64 1)⟩] K s := (den_reg hf _ K s).trans (by kernel_rfl)
theorem i0e_eq (K : List Item) (s : St) : den prog ann 13 (.code i0e :: K) s = den prog ann 13 (K) s := den_flat hf (l := []) (by kernel_rfl) K s
theorem r3_eq (K : List Item) (s : St) : den prog ann 13 (.code r3 :: K) s = mreg prog ann 13 none [] none [] [
    ⟨some 13, none, .v fun s => some (s.get 0)⟩,
    ⟨some 14, none, .v fun s => some (s.get 0)⟩,
    ⟨some 15, none, .v fun s => binA prog .sub 3 (s.get 14) (.int .i64 1)⟩,
    ⟨some 16, none, .v fun s => binA prog .mul 3 (s.get 13) (s.get 15)⟩,
    ⟨some 17, none, .v fun s => binA prog .quo 3 (s.get 16) (.int .i64 2)⟩,
    ⟨some 4, none, .w false none fun s => newPtr s.m [.int .i64 0]⟩,
    ⟨none, none, .w false none fun s => stA false 1 s.m (s.get 4) (s.get 17)⟩] K s := (den_reg hf _ K s).trans (by kernel_rfl)
theorem k0_eq (K : List Item) (t : List (Nat × AV)) (m : Mem) : den prog ann 13 (.code k0 :: K) ⟨t, 31, m⟩ = L0 (get t 0) (get t 4) m K := den_loop_enter hf (b := l0) (id := 5) (l := [0, 4]) (by kernel_rfl) (by kernel_rfl) (by kernel_rfl) K _
theorem l0_eq (K : List Item) (t : List (Nat × AV)) (m : Mem) : den prog ann 13 (.inLoop l0 :: .inBlock 0 :: K) ⟨t, 31, m⟩ = L0 (get t 0) (get t 4) m K := den_loop_again hf (id := 5) (l := [0, 4]) (by kernel_rfl) (by kernel_rfl) (.inBlock 0 :: K) _
theorem L0_eq (x0 x4 : AV) (m : Mem) (K : List Item) : L0 x0 x4 m K = den prog ann 13 (.code k1 :: .code r9 :: .code r10 :: .code r4 :: .inLoop l0 :: .inBlock 0 :: K) ⟨[(0, x0), (4, x4)], 31, m⟩ := den_flat hf (l := [k1, r9, r10, r4]) (by kernel_rfl) _ _
theorem k1_eq (K : List Item) (s : St) : den prog ann 13 (.code k1 :: K) s = den prog ann 13 (.code r5 :: .code r6 :: .code r7 :: .code i1 :: .inBlock 1 :: K) s := den_blk hf (b := blkOf k1) (l := [r5, r6, r7, i1]) (by kernel_rfl) (by kernel_rfl) K s
theorem r5_eq (K : List Item) (s : St) : den prog ann 13 (.code r5 :: K) s = mreg prog ann 13 (some [0, 4]) [4] none [] [
    ⟨some 20, none, .v fun s => some (.fn 41 [] [(s.get 4)])⟩,
    ⟨some 5, none, .v fun s => some (s.get 20)⟩] K s := (den_reg hf _ K s).trans (by kernel_rfl)
theorem r6_eq (K : List Item) (s : St) : den prog ann 13 (.code r6 :: K) s = mreg prog ann 13 none [] none [] [
    ⟨some 21, none, .v fun s => some (s.get 0)⟩,
    ⟨some 22, none, .v fun s => loadA false 1 s.m (s.get 4)⟩,
    ⟨some 23, none, .v fun s => some (s.get 5)⟩,
    ⟨some 24, none, .v fun s => bldA (plc [(0, 1), (1, 1), (2, 1), (3, 1)]) [.int .i64 0, .int .i64 0, .nilf, .nilf] [(0, (s.get 21)), (1, (s.get 22)), (2, (.fn 42 [] [])), (3, (s.get 23))]⟩,
    ⟨some 25, none, .v fun s => bslF 1 (bslA 1 1 [.int .i64 0] [(0, (.int .i64 0))])⟩,
    ⟨some 26, none, .c 2 (fun s => (.fn 43 [] [])) fun s => [(s.get 24), (s.get 25)]⟩,
    ⟨some 6, none, .v fun s => some (s.get 26)⟩] K s := (den_reg hf _ K s).trans (by kernel_rfl)
theorem r7_eq (K : List Item) (s : St) : den prog ann 13 (.code r7 :: K) s = mreg prog ann 13 none [] none [] [
    ⟨some 27, none, .v fun s => some (s.get 6)⟩,
    ⟨some 28, none, .v fun s => binA prog .neq 22 (s.get 27) (.nils)⟩] K s := (den_reg hf _ K s).trans (by kernel_rfl)
theorem i1_eq (K : List Item) (s : St) : den prog ann 13 (.code i1 :: K) s = ifV prog ann 13 28 i1t i1e K s (s.get 28) := den_if hf (by kernel_rfl) K s
theorem i1t_eq (K : List Item) (s : St) : den prog ann 13 (.code i1t :: K) s = den prog ann 13 (.code r8 :: .code .ret :: K) s := den_flat hf (l := [r8, .ret]) (by kernel_rfl) K s
theorem r8_eq (K : List Item) (s : St) : den prog ann 13 (.code r8 :: K) s = mreg prog ann 13 none [] none [] [
    ⟨some 29, none, .v fun s => some (s.get 6)⟩,
    ⟨some 2, none, .v fun s => some (s.get 29)⟩,
    ⟨some 3, none, .v fun s => some (.int .i64 0)⟩] K s := (den_reg hf _ K s).trans (by kernel_rfl)
theorem i1e_eq (K : List Item) (s : St) : den prog ann 13 (.code i1e :: K) s = den prog ann 13 (K) s := den_flat hf (l := []) (by kernel_rfl) K s
theorem r9_eq (K : List Item) (s : St) : den prog ann 13 (.code r9 :: K) s = mreg prog ann 13 (some [0, 4]) [] none [] [
    ⟨some 30, none, .v fun s => loadA false 1 s.m (s.get 4)⟩] K s := (den_reg hf _ K s).trans (by kernel_rfl)
theorem r10_eq (K : List Item) (s : St) : den prog ann 13 (.code r10 :: K) s = mreg prog ann 13 none [] none [] [
    ⟨some 4, none, .w false none fun s => newPtr s.m [.int .i64 0]⟩,
    ⟨none, none, .w false none fun s => stA false 1 s.m (s.get 4) (s.get 30)⟩] K s := (den_reg hf _ K s).trans (by kernel_rfl)
theorem r4_eq (K : List Item) (s : St) : den prog ann 13 (.code r4 :: K) s = mreg prog ann 13 none [] none [] [
    ⟨some 18, none, .v fun s => loadA false 1 s.m (s.get 4)⟩,
    ⟨some 19, none, .v fun s => binA prog .add 3 (s.get 18) (.int .i64 1)⟩,
    ⟨none, none, .w false none fun s => stA false 1 s.m (s.get 4) (s.get 19)⟩] K s := (den_reg hf _ K s).trans (by kernel_rfl)
theorem ret_eq (K : List Item) (s : St) : den prog ann 13 (.code .ret :: K) s = finM true [fun s => some (s.get 2), fun s => some (s.get 3)] s := (den_ret hf K s).trans (by kernel_rfl)
theorem nil_eq (s : St) : den prog ann 13 [] s = finM true [fun s => some (s.get 2), fun s => some (s.get 3)] s := (den_nil hf s).trans (by kernel_rfl)
theorem inBlock_eq (id : Nat) (K : List Item) (s : St) : den prog ann 13 (.inBlock id :: K) s = den prog ann 13 K s := den_inBlock hf id K s
theorem exit_eq (id : Nat) (K : List Item) (s : St) : den prog ann 13 (.code (.exit id) :: K) s = exitV prog ann 13 (exitTo id K) s := den_exitV hf id K s
theorem call_eq (v0 : AV) (m : Mem) (h : closedL [v0] = true) : denC prog ann 13 [v0] m = (den prog ann 13 [.code b] ⟨[(0, v0)], 31, Mem.empty⟩).bind fun r => some (r.1, m) := (denC_pure hf (b := b) (by kernel_rfl) (by kernel_rfl) (by kernel_rfl) h m).trans (by kernel_rfl)
theorem pure_eq : (ann 13).pure = true := by kernel_rfl
attribute [simp] b_eq r0_eq r1_eq i0_eq i0t_eq r2_eq i0e_eq r3_eq k0_eq l0_eq k1_eq r5_eq r6_eq r7_eq i1_eq i1t_eq r8_eq i1e_eq r9_eq r10_eq r4_eq ret_eq nil_eq inBlock_eq exit_eq pure_eq
end strap_Single

namespace strap_search_find
/-- (pommel/strap.search).find -/
noncomputable def b : Code := (Try.f43.body).getD .skip
theorem hf : prog.funcs[43]? = some Try.f43 := by kernel_rfl
noncomputable def r0 : Code := findReg b 0
noncomputable def k0 : Code := findBlk b 0
noncomputable def r1 : Code := findReg b 1
noncomputable def i0 : Code := findCond b 0
noncomputable def i0t : Code := thenOf i0
noncomputable def i0e : Code := elseOf i0
noncomputable def r2 : Code := findReg b 2
noncomputable def r3 : Code := findReg b 3
noncomputable def i1 : Code := findCond b 1
noncomputable def i1t : Code := thenOf i1
noncomputable def i1e : Code := elseOf i1
noncomputable def r4 : Code := findReg b 4
noncomputable def i2 : Code := findCond b 2
noncomputable def i2t : Code := thenOf i2
noncomputable def i2e : Code := elseOf i2
noncomputable def r5 : Code := findReg b 5
noncomputable def r6 : Code := findReg b 6
noncomputable def r7 : Code := findReg b 7
noncomputable def k1 : Code := findBlk b 1
noncomputable def l1 : Code := loopOf k1
noncomputable def L1 (x1 x2 x5 : AV) (m : Mem) (K : List Item) : Option Res := den prog ann 43 (.code l1 :: .inLoop l1 :: .inBlock 1 :: K) ⟨[(1, x1), (2, x2), (5, x5)], 54, m⟩
noncomputable def r8 : Code := findReg b 8
noncomputable def i3 : Code := findCond b 3
noncomputable def i3t : Code := thenOf i3
noncomputable def i3e : Code := elseOf i3
noncomputable def k2 : Code := findBlk b 2
noncomputable def r10 : Code := findReg b 10
noncomputable def r11 : Code := findReg b 11
noncomputable def i4 : Code := findCond b 4
noncomputable def i4t : Code := thenOf i4
noncomputable def i4e : Code := elseOf i4
noncomputable def r12 : Code := findReg b 12
noncomputable def r9 : Code := findReg b 9
noncomputable def r13 : Code := findReg b 13
theorem b_eq (K : List Item) (s : St) : den prog ann 43 (.code b :: K) s = den prog ann 43 (.code r0 :: .code k0 :: .code r7 :: .code k1 :: .code r13 :: .code .ret :: K) s := den_flat hf (l := [r0, k0, r7, k1, r13, .ret]) (by kernel_rfl) K s
theorem r0_eq (K : List Item) (s : St) : den prog ann 43 (.code r0 :: K) s = mreg prog ann 43 none [] none [] [
    ⟨some 2, none, .v fun s => frozenPtr (s.get 0)⟩,
    ⟨some 4, none, .v fun s => some (.nils)⟩] K s := (den_reg hf _ K s).trans (by kernel_rfl)
theorem k0_eq (K : List Item) (s : St) : den prog ann 43 (.code k0 :: K) s = den prog ann 43 (.code r1 :: .code i0 :: .inBlock 0 :: K) s := den_blk hf (b := blkOf k0) (l := [r1, i0]) (by kernel_rfl) (by kernel_rfl) K s
theorem r1_eq (K : List Item) (s : St) : den prog ann 43 (.code r1 :: K) s = mreg prog ann 43 none [] none [] [
    ⟨some 8, none, .v fun s => fieldA 2 (s.get 2)⟩,
    ⟨some 9, none, .v fun s => loadF false 1 (s.get 8)⟩,
    ⟨some 10, none, .v fun s => some (s.get 1)⟩,
    ⟨some 11, none, .c 0 (fun s => (s.get 9)) fun s => [(s.get 10)]⟩,
    ⟨some 12, none, .v fun s => unA .not (s.get 11)⟩,
    ⟨some 7, none, .v fun s => some (s.get 12)⟩] K s := (den_reg hf _ K s).trans (by kernel_rfl)
theorem i0_eq (K : List Item) (s : St) : den prog ann 43 (.code i0 :: K) s = ifV prog ann 43 7 i0t i0e K s (s.get 7) := den_if hf (by kernel_rfl) K s
theorem i0t_eq (K : List Item) (s : St) : den prog ann 43 (.code i0t :: K) s = den prog ann 43 (.code r2 :: .code .ret :: K) s := den_flat hf (l := [r2, .ret]) (by kernel_rfl) K s
theorem r2_eq (K : List Item) (s : St) : den prog ann 43 (.code r2 :: K) s = mreg prog ann 43 none [] none [] [
    ⟨some 4, none, .v fun s => some (.nils)⟩] K s := (den_reg hf _ K s).trans (by kernel_rfl)
theorem i0e_eq (K : List Item) (s : St) : den prog ann 43 (.code i0e :: K) s = den prog ann 43 (.code r3 :: .code i1 :: K) s := den_flat hf (l := [r3, i1]) (by kernel_rfl) K s
theorem r3_eq (K : List Item) (s : St) : den prog ann 43 (.code r3 :: K) s = mreg prog ann 43 none [] none [] [
    ⟨some 14, none, .v fun s => some (s.get 1)⟩,
    ⟨some 15, none, .v fun s => lenSl (s.get 14)⟩,
    ⟨some 16, none, .v fun s => fieldA 0 (s.get 2)⟩,
    ⟨some 17, none, .v fun s => loadF false 1 (s.get 16)⟩,
    ⟨some 18, none, .v fun s => binA prog .eql 3 (s.get 15) (s.get 17)⟩,
    ⟨some 13, none, .v fun s => some (s.get 18)⟩] K s := (den_reg hf _ K s).trans (by kernel_rfl)
theorem i1_eq (K : List Item) (s : St) : den prog ann 43 (.code i1 :: K) s = ifV prog ann 43 13 i1t i1e K s (s.get 13) := den_if hf (by kernel_rfl) K s
theorem i1t_eq (K : List Item) (s : St) : den prog ann 43 (.code i1t :: K) s = den prog ann 43 (.code r4 :: .code i2 :: .code r6 :: .code .ret :: K) s := den_flat hf (l := [r4, i2, r6, .ret]) (by kernel_rfl) K s
theorem r4_eq (K : List Item) (s : St) : den prog ann 43 (.code r4 :: K) s = mreg prog ann 43 none [] none [] [
    ⟨some 19, none, .v fun s => fieldA 3 (s.get 2)⟩,
    ⟨some 20, none, .v fun s => loadF false 1 (s.get 19)⟩,
    ⟨some 21, none, .v fun s => some (s.get 1)⟩,
    ⟨some 22, none, .c 0 (fun s => (s.get 20)) fun s => [(s.get 21)]⟩] K s := (den_reg hf _ K s).trans (by kernel_rfl)
theorem i2_eq (K : List Item) (s : St) : den prog ann 43 (.code i2 :: K) s = ifV prog ann 43 22 i2t i2e K s (s.get 22) := den_if hf (by kernel_rfl) K s
theorem i2t_eq (K : List Item) (s : St) : den prog ann 43 (.code i2t :: K) s = den prog ann 43 (.code r5 :: .code .ret :: K) s := den_flat hf (l := [r5, .ret]) (by kernel_rfl) K s
theorem r5_eq (K : List Item) (s : St) : den prog ann 43 (.code r5 :: K) s = mreg prog ann 43 none [] none [] [
    ⟨some 23, none, .v fun s => some (s.get 1)⟩,
    ⟨some 4, none, .v fun s => some (s.get 23)⟩] K s := (den_reg hf _ K s).trans (by kernel_rfl)
theorem i2e_eq (K : List Item) (s : St) : den prog ann 43 (.code i2e :: K) s = den prog ann 43 (K) s := den_flat hf (l := []) (by kernel_rfl) K s
theorem r6_eq (K : List Item) (s : St) : den prog ann 43 (.code r6 :: K) s = mreg prog ann 43 none [] none [] [
    ⟨some 4, none, .v fun s => some (.nils)⟩] K s := (den_reg hf _ K s).trans (by kernel_rfl)
theorem i1e_eq (K : List Item) (s : St) : den prog ann 43 (.code i1e :: K) s = den prog ann 43 (K) s := den_flat hf (l := []) (by kernel_rfl) K s
theorem r7_eq (K : List Item) (s : St) : den prog ann 43 (.code r7 :: K) s = mreg prog ann 43 (some [1, 2]) [] none [] [
    ⟨some 24, none, .v fun s => some (s.get 1)⟩,
    ⟨some 25, none, .v fun s => some (s.get 1)⟩,
    ⟨some 26, none, .v fun s => lenSl (s.get 25)⟩,
    ⟨some 27, none, .v fun s => binA prog .sub 3 (s.get 26) (.int .i64 1)⟩,
    ⟨some 28, none, .v fun s => idxSl 1 (s.get 24) (s.get 27)⟩,
    ⟨some 29, none, .v fun s => loadF false 1 (s.get 28)⟩,
    ⟨some 30, none, .v fun s => binA prog .add 3 (s.get 29) (.int .i64 1)⟩,
    ⟨some 5, none, .v fun s => some (s.get 30)⟩] K s := (den_reg hf _ K s).trans (by kernel_rfl)
theorem k1_eq (K : List Item) (t : List (Nat × AV)) (m : Mem) : den prog ann 43 (.code k1 :: K) ⟨t, 54, m⟩ = L1 (get t 1) (get t 2) (get t 5) m K := den_loop_enter hf (b := l1) (id := 8) (l := [1, 2, 5]) (by kernel_rfl) (by kernel_rfl) (by kernel_rfl) K _
theorem l1_eq (K : List Item) (t : List (Nat × AV)) (m : Mem) : den prog ann 43 (.inLoop l1 :: .inBlock 1 :: K) ⟨t, 54, m⟩ = L1 (get t 1) (get t 2) (get t 5) m K := den_loop_again hf (id := 8) (l := [1, 2, 5]) (by kernel_rfl) (by kernel_rfl) (.inBlock 1 :: K) _
theorem L1_eq (x1 x2 x5 : AV) (m : Mem) (K : List Item) : L1 x1 x2 x5 m K = den prog ann 43 (.code r8 :: .code i3 :: .code k2 :: .code r9 :: .inLoop l1 :: .inBlock 1 :: K) ⟨[(1, x1), (2, x2), (5, x5)], 54, m⟩ := den_flat hf (l := [r8, i3, k2, r9]) (by kernel_rfl) _ _
theorem r8_eq (K : List Item) (s : St) : den prog ann 43 (.code r8 :: K) s = mreg prog ann 43 (some [1, 2, 5]) [] none [] [
    ⟨some 31, none, .v fun s => some (s.get 5)⟩,
    ⟨some 32, none, .v fun s => fieldA 1 (s.get 2)⟩,
    ⟨some 33, none, .v fun s => loadF false 1 (s.get 32)⟩,
    ⟨some 34, none, .v fun s => fieldA 0 (s.get 2)⟩,
    ⟨some 35, none, .v fun s => loadF false 1 (s.get 34)⟩,
    ⟨some 36, none, .v fun s => some (s.get 1)⟩,
    ⟨some 37, none, .v fun s => lenSl (s.get 36)⟩,
    ⟨some 38, none, .v fun s => binA prog .sub 3 (s.get 35) (s.get 37)⟩,
    ⟨some 39, none, .v fun s => binA prog .sub 3 (s.get 38) (.int .i64 1)⟩,
    ⟨some 40, none, .v fun s => binA prog .sub 3 (s.get 33) (s.get 39)⟩,
    ⟨some 41, none, .v fun s => binA prog .leq 3 (s.get 31) (s.get 40)⟩] K s := (den_reg hf _ K s).trans (by kernel_rfl)
theorem i3_eq (K : List Item) (s : St) : den prog ann 43 (.code i3 :: K) s = ifV prog ann 43 41 i3t i3e K s (s.get 41) := den_if hf (by kernel_rfl) K s
theorem i3t_eq (K : List Item) (s : St) : den prog ann 43 (.code i3t :: K) s = den prog ann 43 (K) s := den_flat hf (l := []) (by kernel_rfl) K s
theorem i3e_eq (K : List Item) (s : St) : den prog ann 43 (.code i3e :: K) s = den prog ann 43 (.code (.exit 1) :: K) s := den_flat hf (l := [(.exit 1)]) (by kernel_rfl) K s
theorem k2_eq (K : List Item) (s : St) : den prog ann 43 (.code k2 :: K) s = den prog ann 43 (.code r10 :: .code r11 :: .code i4 :: .inBlock 2 :: K) s := den_blk hf (b := blkOf k2) (l := [r10, r11, i4]) (by kernel_rfl) (by kernel_rfl) K s
theorem r10_draw : drawOk (fun g => (ann g).pure) (modeOf (ann 43) (idOf r10)) (frzOf (ann 43) (idOf r10)) (opsOf r10) = true := drawOk_of (an := [0, 0, 2, 0, 8, 30, 63, 127]) (by kernel_rfl) (by kernel_rfl)
theorem r10_eq (K : List Item) (s : St) : den prog ann 43 (.code r10 :: K) s = mreg prog ann 43 none [] (some 8) [] [
    ⟨some 44, none, .v fun s => loadF true 4 (s.get 2)⟩,
    ⟨some 45, none, .v fun s => some (s.get 1)⟩,
    ⟨some 46, none, .c 0 (fun s => (.fn 64 [] [])) fun s => [(s.get 45)]⟩,
    ⟨some 47, none, .v fun s => some (s.get 5)⟩,
    ⟨some 48, none, .v fun s => bslF 1 (bslA 1 1 [.int .i64 0] [(0, (s.get 47))])⟩,
    ⟨some 49, none, .w false (some 5) fun s => appendA 1 8 s.m (s.get 46) (s.get 48)⟩,
    ⟨some 50, none, .c 2 (fun s => (.fn 43 [] [])) fun s => [(s.get 44), (s.get 49)]⟩,
    ⟨some 6, none, .v fun s => some (s.get 50)⟩] K s := (den_regD hf r10_draw K s).trans (by kernel_rfl)
theorem r11_eq (K : List Item) (s : St) : den prog ann 43 (.code r11 :: K) s = mreg prog ann 43 none [] none [] [
    ⟨some 51, none, .v fun s => some (s.get 6)⟩,
    ⟨some 52, none, .v fun s => binA prog .neq 22 (s.get 51) (.nils)⟩] K s := (den_reg hf _ K s).trans (by kernel_rfl)
theorem i4_eq (K : List Item) (s : St) : den prog ann 43 (.code i4 :: K) s = ifV prog ann 43 52 i4t i4e K s (s.get 52) := den_if hf (by kernel_rfl) K s
theorem i4t_eq (K : List Item) (s : St) : den prog ann 43 (.code i4t :: K) s = den prog ann 43 (.code r12 :: .code .ret :: K) s := den_flat hf (l := [r12, .ret]) (by kernel_rfl) K s
theorem r12_eq (K : List Item) (s : St) : den prog ann 43 (.code r12 :: K) s = mreg prog ann 43 none [] none [] [
    ⟨some 53, none, .v fun s => some (s.get 6)⟩,
    ⟨some 4, none, .v fun s => some (s.get 53)⟩] K s := (den_reg hf _ K s).trans (by kernel_rfl)
theorem i4e_eq (K : List Item) (s : St) : den prog ann 43 (.code i4e :: K) s = den prog ann 43 (K) s := den_flat hf (l := []) (by kernel_rfl) K s
theorem r9_eq (K : List Item) (s : St) : den prog ann 43 (.code r9 :: K) s = mreg prog ann 43 (some [1, 2, 5]) [] none [] [
    ⟨some 42, none, .v fun s => some (s.get 5)⟩,
    ⟨some 43, none, .v fun s => binA prog .add 3 (s.get 42) (.int .i64 1)⟩,
    ⟨some 5, none, .v fun s => some (s.get 43)⟩] K s := (den_reg hf _ K s).trans (by kernel_rfl)
theorem r13_eq (K : List Item) (s : St) : den prog ann 43 (.code r13 :: K) s = mreg prog ann 43 (some []) [] none [] [
    ⟨some 4, none, .v fun s => some (.nils)⟩] K s := (den_reg hf _ K s).trans (by kernel_rfl)
theorem ret_eq (K : List Item) (s : St) : den prog ann 43 (.code .ret :: K) s = finM true [fun s => some (s.get 4)] s := (den_ret hf K s).trans (by kernel_rfl)
theorem nil_eq (s : St) : den prog ann 43 [] s = finM true [fun s => some (s.get 4)] s := (den_nil hf s).trans (by kernel_rfl)
theorem inBlock_eq (id : Nat) (K : List Item) (s : St) : den prog ann 43 (.inBlock id :: K) s = den prog ann 43 K s := den_inBlock hf id K s
theorem exit_eq (id : Nat) (K : List Item) (s : St) : den prog ann 43 (.code (.exit id) :: K) s = exitV prog ann 43 (exitTo id K) s := den_exitV hf id K s
theorem call_eq (v0 v1 : AV) (m : Mem) (h : closedL [v0, v1] = true) : denC prog ann 43 [v0, v1] m = (den prog ann 43 [.code b] ⟨[(0, v0), (1, v1)], 54, Mem.empty⟩).bind fun r => some (r.1, m) := (denC_pure hf (b := b) (by kernel_rfl) (by kernel_rfl) (by kernel_rfl) h m).trans (by kernel_rfl)
theorem pure_eq : (ann 43).pure = true := by kernel_rfl
attribute [simp] b_eq r0_eq k0_eq r1_eq i0_eq i0t_eq r2_eq i0e_eq r3_eq i1_eq i1t_eq r4_eq i2_eq i2t_eq r5_eq i2e_eq r6_eq i1e_eq r7_eq k1_eq l1_eq r8_eq i3_eq i3t_eq i3e_eq k2_eq r10_eq r11_eq i4_eq i4t_eq r12_eq i4e_eq r9_eq r13_eq ret_eq nil_eq inBlock_eq exit_eq pure_eq
end strap_search_find

namespace strap_single
/-- pommel/strap.single -/
noncomputable def b : Code := (Try.f42.body).getD .skip
theorem hf : prog.funcs[42]? = some Try.f42 := by kernel_rfl
noncomputable def r0 : Code := findReg b 0
noncomputable def r1 : Code := findReg b 1
theorem b_eq (K : List Item) (s : St) : den prog ann 42 (.code b :: K) s = den prog ann 42 (.code r0 :: .code r1 :: .code .ret :: K) s := den_flat hf (l := [r0, r1, .ret]) (by kernel_rfl) K s
theorem r0_eq (K : List Item) (s : St) : den prog ann 42 (.code r0 :: K) s = mreg prog ann 42 none [] none [] [
    ⟨some 2, none, .v fun s => some (.bool false)⟩] K s := (den_reg hf _ K s).trans (by kernel_rfl)
theorem r1_eq (K : List Item) (s : St) : den prog ann 42 (.code r1 :: K) s = mreg prog ann 42 none [] none [] [
    ⟨some 3, none, .v fun s => some (s.get 0)⟩,
    ⟨some 4, none, .c 0 (fun s => (.fn 50 [] [])) fun s => [(s.get 3)]⟩,
    ⟨some 5, none, .c 0 (fun s => (.fn 58 [] [])) fun s => [(s.get 4)]⟩,
    ⟨some 6, none, .v fun s => binA prog .leq 3 (s.get 5) (.int .i64 1)⟩,
    ⟨some 2, none, .v fun s => some (s.get 6)⟩] K s := (den_reg hf _ K s).trans (by kernel_rfl)
theorem ret_eq (K : List Item) (s : St) : den prog ann 42 (.code .ret :: K) s = finM true [fun s => some (s.get 2)] s := (den_ret hf K s).trans (by kernel_rfl)
theorem nil_eq (s : St) : den prog ann 42 [] s = finM true [fun s => some (s.get 2)] s := (den_nil hf s).trans (by kernel_rfl)
theorem inBlock_eq (id : Nat) (K : List Item) (s : St) : den prog ann 42 (.inBlock id :: K) s = den prog ann 42 K s := den_inBlock hf id K s
theorem exit_eq (id : Nat) (K : List Item) (s : St) : den prog ann 42 (.code (.exit id) :: K) s = exitV prog ann 42 (exitTo id K) s := den_exitV hf id K s
theorem call_eq (v0 : AV) (m : Mem) (h : closedL [v0] = true) : denC prog ann 42 [v0] m = (den prog ann 42 [.code b] ⟨[(0, v0)], 7, Mem.empty⟩).bind fun r => some (r.1, m) := (denC_pure hf (b := b) (by kernel_rfl) (by kernel_rfl) (by kernel_rfl) h m).trans (by kernel_rfl)
theorem pure_eq : (ann 42).pure = true := by kernel_rfl
attribute [simp] b_eq r0_eq r1_eq ret_eq nil_eq inBlock_eq exit_eq pure_eq
end strap_single

namespace strap_Single_1
/-- pommel/strap.Single$1 -/
noncomputable def b : Code := (Try.f41.body).getD .skip
theorem hf : prog.funcs[41]? = some Try.f41 := by kernel_rfl
noncomputable def r0 : Code := findReg b 0
noncomputable def r1 : Code := findReg b 1
theorem b_eq (K : List Item) (s : St) : den prog ann 41 (.code b :: K) s = den prog ann 41 (.code r0 :: .code r1 :: .code .ret :: K) s := den_flat hf (l := [r0, r1, .ret]) (by kernel_rfl) K s
theorem r0_eq (K : List Item) (s : St) : den prog ann 41 (.code r0 :: K) s = mreg prog ann 41 none [] none [] [
    ⟨some 3, none, .v fun s => some (.bool false)⟩] K s := (den_reg hf _ K s).trans (by kernel_rfl)
theorem r1_draw : drawOk (fun g => (ann g).pure) (modeOf (ann 41) (idOf r1)) (frzOf (ann 41) (idOf r1)) (opsOf r1) = true := drawOk_of (an := [0, 0, 2, 6, 15, 31, 0, 127, 255]) (by kernel_rfl) (by kernel_rfl)
theorem r1_eq (K : List Item) (s : St) : den prog ann 41 (.code r1 :: K) s = mreg prog ann 41 none [] (some 9) [] [
    ⟨some 4, none, .v fun s => some (s.get 0)⟩,
    ⟨some 5, none, .v fun s => some (s.get 0)⟩,
    ⟨some 6, none, .v fun s => lenSl (s.get 5)⟩,
    ⟨some 7, none, .v fun s => binA prog .sub 3 (s.get 6) (.int .i64 1)⟩,
    ⟨some 8, none, .v fun s => idxSl 1 (s.get 4) (s.get 7)⟩,
    ⟨some 9, none, .v fun s => loadA false 1 s.m (s.get 8)⟩,
    ⟨some 10, none, .v fun s => loadA false 1 s.m (s.get 1)⟩,
    ⟨some 11, none, .v fun s => binA prog .eql 3 (s.get 9) (s.get 10)⟩,
    ⟨some 3, none, .v fun s => some (s.get 11)⟩] K s := (den_regD hf r1_draw K s).trans (by kernel_rfl)
theorem ret_eq (K : List Item) (s : St) : den prog ann 41 (.code .ret :: K) s = finM false [fun s => some (s.get 3)] s := (den_ret hf K s).trans (by kernel_rfl)
theorem nil_eq (s : St) : den prog ann 41 [] s = finM false [fun s => some (s.get 3)] s := (den_nil hf s).trans (by kernel_rfl)
theorem inBlock_eq (id : Nat) (K : List Item) (s : St) : den prog ann 41 (.inBlock id :: K) s = den prog ann 41 K s := den_inBlock hf id K s
theorem exit_eq (id : Nat) (K : List Item) (s : St) : den prog ann 41 (.code (.exit id) :: K) s = exitV prog ann 41 (exitTo id K) s := den_exitV hf id K s
theorem call_eq (v0 v1 : AV) (m : Mem) : denC prog ann 41 [v0, v1] m = den prog ann 41 [.code b] ⟨[(0, v0), (1, v1)], 12, m⟩ := (denC_impure hf (b := b) (by kernel_rfl) (by kernel_rfl) (by kernel_rfl) m).trans (by kernel_rfl)
theorem pure_eq : (ann 41).pure = false := by kernel_rfl
attribute [simp] b_eq r0_eq r1_eq ret_eq nil_eq inBlock_eq exit_eq pure_eq
end strap_Single_1

namespace slices_Max_int
/-- slices.Maxintint -/
noncomputable def b : Code := (Try.f58.body).getD .skip
theorem hf : prog.funcs[58]? = some Try.f58 := by kernel_rfl
noncomputable def r0 : Code := findReg b 0
noncomputable def r1 : Code := findReg b 1
noncomputable def i0 : Code := findCond b 0
noncomputable def i0t : Code := thenOf i0
noncomputable def i0e : Code := elseOf i0
noncomputable def r2 : Code := findReg b 2
noncomputable def r3 : Code := findReg b 3
noncomputable def r4 : Code := findReg b 4
noncomputable def k0 : Code := findBlk b 0
noncomputable def l0 : Code := loopOf k0
noncomputable def L0 (x0 x3 x4 : AV) (m : Mem) (K : List Item) : Option Res := den prog ann 58 (.code l0 :: .inLoop l0 :: .inBlock 0 :: K) ⟨[(0, x0), (3, x3), (4, x4)], 25, m⟩
noncomputable def r5 : Code := findReg b 5
noncomputable def i1 : Code := findCond b 1
noncomputable def i1t : Code := thenOf i1
noncomputable def i1e : Code := elseOf i1
noncomputable def k1 : Code := findBlk b 1
noncomputable def r7 : Code := findReg b 7
noncomputable def r6 : Code := findReg b 6
noncomputable def r8 : Code := findReg b 8
theorem b_eq (K : List Item) (s : St) : den prog ann 58 (.code b :: K) s = den prog ann 58 (.code r0 :: .code r1 :: .code i0 :: .code r3 :: .code r4 :: .code k0 :: .code r8 :: .code .ret :: K) s := den_flat hf (l := [r0, r1, i0, r3, r4, k0, r8, .ret]) (by kernel_rfl) K s
theorem r0_eq (K : List Item) (s : St) : den prog ann 58 (.code r0 :: K) s = mreg prog ann 58 none [] none [] [
    ⟨some 2, none, .v fun s => some (.int .i64 0)⟩] K s := (den_reg hf _ K s).trans (by kernel_rfl)
theorem r1_eq (K : List Item) (s : St) : den prog ann 58 (.code r1 :: K) s = mreg prog ann 58 none [] none [] [
    ⟨some 5, none, .v fun s => some (s.get 0)⟩,
    ⟨some 6, none, .v fun s => lenSl (s.get 5)⟩,
    ⟨some 7, none, .v fun s => binA prog .lss 3 (s.get 6) (.int .i64 1)⟩] K s := (den_reg hf _ K s).trans (by kernel_rfl)
theorem i0_eq (K : List Item) (s : St) : den prog ann 58 (.code i0 :: K) s = ifV prog ann 58 7 i0t i0e K s (s.get 7) := den_if hf (by kernel_rfl) K s
theorem i0t_eq (K : List Item) (s : St) : den prog ann 58 (.code i0t :: K) s = den prog ann 58 (.code r2 :: K) s := den_flat hf (l := [r2]) (by kernel_rfl) K s
-- not covered: r2, operation 1
theorem i0e_eq (K : List Item) (s : St) : den prog ann 58 (.code i0e :: K) s = den prog ann 58 (K) s := den_flat hf (l := []) (by kernel_rfl) K s
theorem r3_eq (K : List Item) (s : St) : den prog ann 58 (.code r3 :: K) s = mreg prog ann 58 (some [0]) [] none [] [
    ⟨some 9, none, .v fun s => some (s.get 0)⟩,
    ⟨some 10, none, .v fun s => idxSl 1 (s.get 9) (.int .i64 0)⟩,
    ⟨some 11, none, .v fun s => loadF false 1 (s.get 10)⟩,
    ⟨some 3, none, .v fun s => some (s.get 11)⟩] K s := (den_reg hf _ K s).trans (by kernel_rfl)
theorem r4_eq (K : List Item) (s : St) : den prog ann 58 (.code r4 :: K) s = mreg prog ann 58 none [] none [] [
    ⟨some 4, none, .v fun s => some (.int .i64 1)⟩] K s := (den_reg hf _ K s).trans (by kernel_rfl)
theorem k0_eq (K : List Item) (t : List (Nat × AV)) (m : Mem) : den prog ann 58 (.code k0 :: K) ⟨t, 25, m⟩ = L0 (get t 0) (get t 3) (get t 4) m K := den_loop_enter hf (b := l0) (id := 5) (l := [0, 3, 4]) (by kernel_rfl) (by kernel_rfl) (by kernel_rfl) K _
theorem l0_eq (K : List Item) (t : List (Nat × AV)) (m : Mem) : den prog ann 58 (.inLoop l0 :: .inBlock 0 :: K) ⟨t, 25, m⟩ = L0 (get t 0) (get t 3) (get t 4) m K := den_loop_again hf (id := 5) (l := [0, 3, 4]) (by kernel_rfl) (by kernel_rfl) (.inBlock 0 :: K) _
theorem L0_eq (x0 x3 x4 : AV) (m : Mem) (K : List Item) : L0 x0 x3 x4 m K = den prog ann 58 (.code r5 :: .code i1 :: .code k1 :: .code r6 :: .inLoop l0 :: .inBlock 0 :: K) ⟨[(0, x0), (3, x3), (4, x4)], 25, m⟩ := den_flat hf (l := [r5, i1, k1, r6]) (by kernel_rfl) _ _
theorem r5_eq (K : List Item) (s : St) : den prog ann 58 (.code r5 :: K) s = mreg prog ann 58 (some [0, 3, 4]) [] none [] [
    ⟨some 12, none, .v fun s => some (s.get 4)⟩,
    ⟨some 13, none, .v fun s => some (s.get 0)⟩,
    ⟨some 14, none, .v fun s => lenSl (s.get 13)⟩,
    ⟨some 15, none, .v fun s => binA prog .lss 3 (s.get 12) (s.get 14)⟩] K s := (den_reg hf _ K s).trans (by kernel_rfl)
theorem i1_eq (K : List Item) (s : St) : den prog ann 58 (.code i1 :: K) s = ifV prog ann 58 15 i1t i1e K s (s.get 15) := den_if hf (by kernel_rfl) K s
theorem i1t_eq (K : List Item) (s : St) : den prog ann 58 (.code i1t :: K) s = den prog ann 58 (K) s := den_flat hf (l := []) (by kernel_rfl) K s
theorem i1e_eq (K : List Item) (s : St) : den prog ann 58 (.code i1e :: K) s = den prog ann 58 (.code (.exit 0) :: K) s := den_flat hf (l := [(.exit 0)]) (by kernel_rfl) K s
theorem k1_eq (K : List Item) (s : St) : den prog ann 58 (.code k1 :: K) s = den prog ann 58 (.code r7 :: .inBlock 1 :: K) s := den_blk hf (b := blkOf k1) (l := [r7]) (by kernel_rfl) (by kernel_rfl) K s
theorem r7_eq (K : List Item) (s : St) : den prog ann 58 (.code r7 :: K) s = mreg prog ann 58 none [] none [] [
    ⟨some 18, none, .v fun s => some (s.get 3)⟩,
    ⟨some 19, none, .v fun s => some (s.get 0)⟩,
    ⟨some 20, none, .v fun s => some (s.get 4)⟩,
    ⟨some 21, none, .v fun s => idxSl 1 (s.get 19) (s.get 20)⟩,
    ⟨some 22, none, .v fun s => loadF false 1 (s.get 21)⟩,
    ⟨some 23, none, .v fun s => foldA max2A (s.get 18) [(s.get 22)]⟩,
    ⟨some 3, none, .v fun s => some (s.get 23)⟩] K s := (den_reg hf _ K s).trans (by kernel_rfl)
theorem r6_eq (K : List Item) (s : St) : den prog ann 58 (.code r6 :: K) s = mreg prog ann 58 (some [0, 3, 4]) [] none [] [
    ⟨some 16, none, .v fun s => some (s.get 4)⟩,
    ⟨some 17, none, .v fun s => binA prog .add 3 (s.get 16) (.int .i64 1)⟩,
    ⟨some 4, none, .v fun s => some (s.get 17)⟩] K s := (den_reg hf _ K s).trans (by kernel_rfl)
theorem r8_eq (K : List Item) (s : St) : den prog ann 58 (.code r8 :: K) s = mreg prog ann 58 (some [3]) [] none [] [
    ⟨some 24, none, .v fun s => some (s.get 3)⟩,
    ⟨some 2, none, .v fun s => some (s.get 24)⟩] K s := (den_reg hf _ K s).trans (by kernel_rfl)
theorem ret_eq (K : List Item) (s : St) : den prog ann 58 (.code .ret :: K) s = finM true [fun s => some (s.get 2)] s := (den_ret hf K s).trans (by kernel_rfl)
theorem nil_eq (s : St) : den prog ann 58 [] s = finM true [fun s => some (s.get 2)] s := (den_nil hf s).trans (by kernel_rfl)
theorem inBlock_eq (id : Nat) (K : List Item) (s : St) : den prog ann 58 (.inBlock id :: K) s = den prog ann 58 K s := den_inBlock hf id K s
theorem exit_eq (id : Nat) (K : List Item) (s : St) : den prog ann 58 (.code (.exit id) :: K) s = exitV prog ann 58 (exitTo id K) s := den_exitV hf id K s
theorem call_eq (v0 : AV) (m : Mem) (h : closedL [v0] = true) : denC prog ann 58 [v0] m = (den prog ann 58 [.code b] ⟨[(0, v0)], 25, Mem.empty⟩).bind fun r => some (r.1, m) := (denC_pure hf (b := b) (by kernel_rfl) (by kernel_rfl) (by kernel_rfl) h m).trans (by kernel_rfl)
theorem pure_eq : (ann 58).pure = true := by kernel_rfl
attribute [simp] b_eq r0_eq r1_eq i0_eq i0t_eq i0e_eq r3_eq r4_eq k0_eq l0_eq r5_eq i1_eq i1t_eq i1e_eq k1_eq r7_eq r6_eq r8_eq ret_eq nil_eq inBlock_eq exit_eq pure_eq
end slices_Max_int
end Go.Proofs.Ytpghadmpegncgaa

/-
  BODIES OF FUNCTIONS OF THE PROGRAM AS SMALL OPERATIONS (written by gen.py; checked by the kernel against the program). Conditions: none.
-/
namespace Go.Proofs.Ytpghadmpegncgaa
open Go.AM
open Go.Proofs.Try (prog)
set_option maxRecDepth 100000
set_option linter.all false

namespace slices_Clone_int
/-- slices.Cloneintint -/
noncomputable def b : Code := (Try.f64.body).getD .skip
theorem hf : prog.funcs[64]? = some Try.f64 := by kernel_rfl
noncomputable def r0 : Code := findReg b 0
noncomputable def r1 : Code := findReg b 1
noncomputable def i0 : Code := findCond b 0
noncomputable def i0t : Code := thenOf i0
noncomputable def i0e : Code := elseOf i0
noncomputable def r2 : Code := findReg b 2
noncomputable def r3 : Code := findReg b 3
theorem b_eq (K : List Item) (s : St) : den prog ann 64 (.code b :: K) s = den prog ann 64 (.code r0 :: .code r1 :: .code i0 :: .code r3 :: .code .ret :: K) s := den_flat hf (l := [r0, r1, i0, r3, .ret]) (by kernel_rfl) K s
theorem r0_eq (K : List Item) (s : St) : den prog ann 64 (.code r0 :: K) s = mreg prog ann 64 none [] none [] [
    ⟨some 2, none, .v fun s => some (.nils)⟩] K s := (den_reg hf _ K s).trans (by kernel_rfl)
theorem r1_eq (K : List Item) (s : St) : den prog ann 64 (.code r1 :: K) s = mreg prog ann 64 none [] none [] [
    ⟨some 3, none, .v fun s => some (s.get 0)⟩,
    ⟨some 4, none, .v fun s => binA prog .eql 22 (s.get 3) (.nils)⟩] K s := (den_reg hf _ K s).trans (by kernel_rfl)
theorem i0_eq (K : List Item) (s : St) : den prog ann 64 (.code i0 :: K) s = ifV prog ann 64 4 i0t i0e K s (s.get 4) := den_if hf (by kernel_rfl) K s
theorem i0t_eq (K : List Item) (s : St) : den prog ann 64 (.code i0t :: K) s = den prog ann 64 (.code r2 :: .code .ret :: K) s := den_flat hf (l := [r2, .ret]) (by kernel_rfl) K s
theorem r2_eq (K : List Item) (s : St) : den prog ann 64 (.code r2 :: K) s = mreg prog ann 64 none [] none [] [
    ⟨some 2, none, .v fun s => some (.nils)⟩] K s := (den_reg hf _ K s).trans (by kernel_rfl)
theorem i0e_eq (K : List Item) (s : St) : den prog ann 64 (.code i0e :: K) s = den prog ann 64 (K) s := den_flat hf (l := []) (by kernel_rfl) K s
theorem r3_eq (K : List Item) (s : St) : den prog ann 64 (.code r3 :: K) s = mreg prog ann 64 none [] none [] [
    ⟨some 5, none, .w false none fun s => bslM s.m 0 (bslA 1 0 [.int .i64 0] [])⟩,
    ⟨some 6, none, .v fun s => some (s.get 0)⟩,
    ⟨some 7, none, .w false none fun s => appendA 1 8 s.m (s.get 5) (s.get 6)⟩,
    ⟨some 2, none, .v fun s => some (s.get 7)⟩] K s := (den_reg hf _ K s).trans (by kernel_rfl)
theorem ret_eq (K : List Item) (s : St) : den prog ann 64 (.code .ret :: K) s = finM false [fun s => some (s.get 2)] s := (den_ret hf K s).trans (by kernel_rfl)
theorem nil_eq (s : St) : den prog ann 64 [] s = finM false [fun s => some (s.get 2)] s := (den_nil hf s).trans (by kernel_rfl)
theorem inBlock_eq (id : Nat) (K : List Item) (s : St) : den prog ann 64 (.inBlock id :: K) s = den prog ann 64 K s := den_inBlock hf id K s
theorem exit_eq (id : Nat) (K : List Item) (s : St) : den prog ann 64 (.code (.exit id) :: K) s = exitV prog ann 64 (exitTo id K) s := den_exitV hf id K s
theorem call_eq (v0 : AV) (m : Mem) : denC prog ann 64 [v0] m = den prog ann 64 [.code b] ⟨[(0, v0)], 8, m⟩ := (denC_impure hf (b := b) (by kernel_rfl) (by kernel_rfl) (by kernel_rfl) m).trans (by kernel_rfl)
theorem pure_eq : (ann 64).pure = false := by kernel_rfl
attribute [simp] b_eq r0_eq r1_eq i0_eq i0t_eq r2_eq i0e_eq r3_eq ret_eq nil_eq inBlock_eq exit_eq pure_eq
end slices_Clone_int



end Go.Proofs.Ytpghadmpegncgaa

/-
  STRAPS (9): the search for the first list. Conditions: none.
-/
namespace Go.Proofs.Ytpghadmpegncgaa
open Go.AM
open Go.Proofs.Try (prog)
set_option linter.all false
set_option maxRecDepth 100000
set_option maxHeartbeats 4000000

/-! ### The greatest of a list; single lists -/
def maxL (c : List Int) : Int := (c.drop 1).foldl max (nth c 0)
theorem max_loop {w : AV} {c : List Int} (hw0 : IsInts w c) (hcl : c.length ≤ 1001) : ∀ (k i : Nat) (x : Int) (m : Mem), i + k = c.length →
    slices_Max_int.L0 w (.int .i64 x) (.int .i64 i) m [.code slices_Max_int.r8, .code .ret] = some (.int .i64 ((c.drop i).foldl max x), Mem.empty) := by
  intro k
  induction k with
  | zero =>
    intro i x m h1
    have e : i = c.length := by omega
    subst e
    rw [slices_Max_int.L0_eq]
    simp [hw0.len]
    done
  | succ k ih =>
    intro i x m h1
    have hi : i < c.length := by omega
    have hw : IntKind.wrap .i64 ((i : Int) + 1) = (i : Int) + 1 := wrap_id (by omega) (by omega)
    have hst := ih (i + 1) (max x (nth c i)) m (by omega)
    simp only [Int.natCast_add, Int.cast_ofNat_Int] at hst
    rw [drop_nth hi, List.foldl_cons, slices_Max_int.L0_eq]
    simp [hi, hw0.len, hw0.idx hi, ints_head hi, hw, hst]
    done
theorem max_spec {w : AV} {c : List Int} (hw0 : IsInts w c) (hcl : c.length ≤ 1001) (h0 : 0 < c.length) (m : Mem) : denC prog ann 58 [w] m = some (.int .i64 (maxL c), m) := by
  have lp := max_loop hw0 hcl (c.length - 1) 1 (nth c 0) Mem.empty (by omega)
  simp only [Int.cast_ofNat_Int] at lp
  have i0 := hw0.idx h0 .i64
  have i1 := ints_head h0
  simp only [Int.ofNat_zero, Int.cast_ofNat_Int, List.drop_zero] at i0 i1
  rw [slices_Max_int.call_eq _ _ (by simp [hw0.closed])]
  have hn : ¬ (c.length : Int) < 1 := by omega
  simp [hw0.len, hn, i0, i1, lp, maxL]
  done
def gSingle (l : List Int) : Bool := decide (maxL (counts l) ≤ 1)
theorem single_spec {w : AV} {l : List Int} (hv : IsInts w l) (s : StrapOk l) (m : Mem) : denC prog ann 42 [w] m = some (.bool (gSingle l), m) := by
  have hw0 := intsV_is (counts l)
  rw [strap_single.call_eq _ _ (by simp [hv.closed])]
  simp [hv.closed, counts_spec hv s, hw0.closed, max_spec hw0 (counts_few s) (counts_pos s), gSingle]
  done

theorem top_app (l : List Int) (x : Int) : top (l ++ [x]) = x := by unfold top; simp only [List.length_append, List.length_singleton, Nat.add_sub_cancel]; exact nth_last l x
/-! ### The search -/
def firstF (r : List Int → Option (List Int)) (l : List Int) : Nat → Int → Option (List Int)
  | 0, _ => none
  | n + 1, x => match r (l ++ [x]) with
    | some q => some q
    | none => firstF r l n (x + 1)
def findF (g e : List Int → Bool) (last : Int) : Nat → List Int → Option (List Int)
  | 0, l => if g l = true then (if e l = true then some l else none) else none
  | f + 1, l => if g l = true then firstF (findF g e last f) l (last - f - top l).toNat (top l + 1) else none
def ResV (r : Option (List Int)) (w : AV) : Prop := match r with
  | none => w = .nils
  | some l => ∃ ex, w = .fsl ex l.length (ints l)
/-- A function value that answers a question about straps. -/
structure Clo (gV : AV) (g : List Int → Bool) (d : Nat) (last : Int) : Prop where
  closed : gV.closed = true
  one : gV.one = true
  says : ∀ {w : AV} {l : List Int}, IsInts w l → StrapOk l → top l ≤ last → ∀ m, callA (fun g => (ann g).pure) (denC prog ann) 0 m gV [w] = some (.bool (g l), ⟨m.h, m.nx + d⟩)
theorem clone_spec (ex : Bool) (l : List Int) (hl : l.length ≤ 1000000) (h0 : 0 < l.length) (m : Mem) : ∃ m', m'.h m.nx = some (.cells (ints l)) ∧ m'.nx = m.nx + 1 ∧ denC prog ann 64 [.fsl ex l.length (ints l)] m = some (.sl m.nx 1 0 l.length l.length, m') := by
  refine ⟨⟨upd (upd m.h m.nx (some (.cells []))) m.nx (some (.cells (ints l))), m.nx + 1⟩, by simp, rfl, ?_⟩
  rw [slices_Clone_int.call_eq]
  have hn : (l.length == 0) = false := by simp; intro e; simp [e] at h0
  simp [Mem.set, hn, show l.length ≤ 4611686018427387904 by omega, show l.length * 8 ≤ 70368744177664 by omega]
  done
theorem find_spec {gV eV : AV} {g e : List Int → Bool} {dg de : Nat} {size : Nat} {last : Int} (hg : Clo gV g dg last) (he : Clo eV e de last) (hs : size ≤ 40) (h1 : 0 ≤ last ∧ last ≤ 1000) : ∀ (f : Nat) (ex : Bool) (l : List Int), StrapOk l → top l ≤ last → l.length + f = size →
    ∃ w', ResV (findF g e last f l) w' ∧ ∀ m, denC prog ann 43 [.agg [.int .i64 size, .int .i64 last, gV, eV], .fsl ex l.length (ints l)] m = some (w', m) := by
  intro f
  induction f with
  | zero =>
    intro ex l s htop hsz
    have hv : IsInts (.fsl ex l.length (ints l)) l := .inr ⟨ex, rfl⟩
    have hcl : closedL [.agg [.int .i64 size, .int .i64 last, gV, eV], .fsl ex l.length (ints l)] = true := by simp [hg.closed, he.closed]
    have sg := hg.says hv s htop
    have se := he.says hv s htop
    have hl : size = l.length := by omega
    subst hl
    simp only [findF]
    by_cases q : g l = true
    · rw [q] at sg
      rw [if_pos q]
      by_cases q2 : e l = true
      · rw [q2] at se
        rw [if_pos q2]
        refine ⟨_, ⟨ex, rfl⟩, fun m => ?_⟩
        rw [strap_search_find.call_eq _ _ _ hcl]
        simp [sg, se, hg.one, he.one, hg.closed, he.closed]
        done
      · rw [Bool.not_eq_true] at q2
        rw [q2] at se
        rw [q2, if_neg (by decide)]
        refine ⟨_, rfl, fun m => ?_⟩
        rw [strap_search_find.call_eq _ _ _ hcl]
        simp [sg, se, hg.one, he.one, hg.closed, he.closed]
        done
    · rw [if_neg q]
      rw [Bool.not_eq_true] at q
      rw [q] at sg
      refine ⟨_, rfl, fun m => ?_⟩
      rw [strap_search_find.call_eq _ _ _ hcl]
      simp [sg, hg.one, he.one, hg.closed, he.closed]
      done
  | succ f ih =>
    intro ex l s htop hsz
    have hv : IsInts (.fsl ex l.length (ints l)) l := .inr ⟨ex, rfl⟩
    have hcl : closedL [.agg [.int .i64 size, .int .i64 last, gV, eV], .fsl ex l.length (ints l)] = true := by simp [hg.closed, he.closed]
    have sg := hg.says hv s htop
    have hl : ¬ (l.length : Int) = (size : Int) := by omega
    have hpos := s.pos
    have hlast : l.length - 1 < l.length := by omega
    have hwl : IntKind.wrap .i64 ((l.length : Int) - 1) = ((l.length - 1 : Nat) : Int) := by rw [wrap_id (by omega) (by omega)]; omega
    have t0 := s.nonneg hlast
    have t1 := s.top
    have w1 : IntKind.wrap .i64 ((size : Int) - (l.length : Int)) = (f : Int) + 1 := by rw [wrap_id (by omega) (by omega)]; omega
    have w2 : IntKind.wrap .i64 (f : Int) = (f : Int) := wrap_id (by omega) (by omega)
    have w3 : IntKind.wrap .i64 (last - (f : Int)) = last - (f : Int) := wrap_id (by omega) (by omega)
    have w4 : IntKind.wrap .i64 (nth l (l.length - 1) + 1) = nth l (l.length - 1) + 1 := wrap_id (by omega) (by omega)
    have loop : ∀ (n : Nat) (x : Int), n = (last - f - x + 1).toNat → top l < x → x ≤ 1001 → ∃ w', ResV (firstF (findF g e last f) l n x) w' ∧ ∀ m, strap_search_find.L1 (.fsl ex l.length (ints l)) (.fptr [.int .i64 size, .int .i64 last, gV, eV]) (.int .i64 x) m [.code strap_search_find.r13, .code .ret] = some (w', Mem.empty) := by
      intro n
      induction n with
      | zero =>
        intro x hn hx hx2
        refine ⟨.nils, rfl, fun m => ?_⟩
        have hc : ¬ x ≤ last - (f : Int) := by omega
        rw [strap_search_find.L1_eq]
        simp [w1, w2, w3, hc]
        done
      | succ n ihn =>
        intro x hn hx hx2
        have hc : x ≤ last - (f : Int) := by omega
        have hw : IntKind.wrap .i64 (x + 1) = x + 1 := wrap_id (by unfold top at hx; omega) (by omega)
        have s2 : StrapOk (l ++ [x]) := s.more (by omega) hx (by omega)
        obtain ⟨w1', r1, e1⟩ := ih false (l ++ [x]) s2 (by rw [top_app]; omega) (by simp; omega)
        obtain ⟨w2', r2, e2⟩ := ihn (x + 1) (by omega) (by omega) (by omega)
        have hxx : ints l ++ [AV.int .i64 x] = ints (l ++ [x]) := by simp [ints]
        have hll : (l ++ [x]).length = l.length + 1 := by simp
        have htk : (l ++ [x]).take (l.length + 1) = l ++ [x] := List.take_of_length_le (by simp)
        rw [hll] at e1
        simp only [firstF]
        cases hf : findF g e last f (l ++ [x]) with
        | some q =>
          rw [hf] at r1
          obtain ⟨ex', rfl⟩ := r1
          refine ⟨_, ⟨ex', rfl⟩, fun m => ?_⟩
          obtain ⟨m', c1, c2, c3⟩ := clone_spec ex l (by omega) hpos ⟨m.h, m.nx + 8⟩
          rw [strap_search_find.L1_eq]
          simp [w1, w2, w3, hc, c3, c1, hxx, show l.length ≤ 4611686018427387903 by omega, show (l.length + 1) * 8 ≤ 70368744177664 by omega, hg.one, he.one, hg.closed, he.closed, htk, e1]
          done
        | none =>
          rw [hf] at r1
          have r1' : w1' = .nils := r1
          subst r1'
          refine ⟨w2', r2, fun m => ?_⟩
          obtain ⟨m', c1, c2, c3⟩ := clone_spec ex l (by omega) hpos ⟨m.h, m.nx + 8⟩
          rw [strap_search_find.L1_eq]
          simp [w1, w2, w3, hc, c3, c1, hxx, show l.length ≤ 4611686018427387903 by omega, show (l.length + 1) * 8 ≤ 70368744177664 by omega, hg.one, he.one, hg.closed, he.closed, htk, e1, hw, e2]
          done
    by_cases q : g l = true
    · rw [q] at sg
      obtain ⟨w', r, ew⟩ := loop (last - f - top l).toNat (top l + 1) (by omega) (by omega) (by unfold top; omega)
      unfold top at ew
      refine ⟨w', by simp only [findF]; rw [if_pos q]; exact r, fun m => ?_⟩
      rw [strap_search_find.call_eq _ _ _ hcl]
      simp [sg, hg.one, he.one, hg.closed, he.closed, hl, hwl, hv.idx hlast, ints_head hlast, w4, ew]
      done
    · refine ⟨.nils, by simp only [findF]; rw [if_neg q]; rfl, fun m => ?_⟩
      rw [Bool.not_eq_true] at q
      rw [q] at sg
      rw [strap_search_find.call_eq _ _ _ hcl]
      simp [sg, hg.one, he.one, hg.closed, he.closed]
      done
end Go.Proofs.Ytpghadmpegncgaa

/-
  BODIES OF FUNCTIONS OF THE PROGRAM AS SMALL OPERATIONS (written by gen.py; checked by the kernel against the program). Conditions: none.
-/
namespace Go.Proofs.Ytpghadmpegncgaa
open Go.AM
open Go.Proofs.Try (prog)
set_option maxRecDepth 100000
set_option linter.all false











end Go.Proofs.Ytpghadmpegncgaa

/-
  BODIES OF FUNCTIONS OF THE PROGRAM AS SMALL OPERATIONS (written by gen.py; checked by the kernel against the program). Conditions: none.
-/
namespace Go.Proofs.Ytpghadmpegncgaa
open Go.AM
open Go.Proofs.Try (prog)
set_option maxRecDepth 100000
set_option linter.all false



end Go.Proofs.Ytpghadmpegncgaa

/-
  STRAPS (12): round straps: the tests, how often each difference comes. Conditions: none.
-/
namespace Go.Proofs.Ytpghadmpegncgaa
open Go.AM
open Go.Proofs.Try (prog)
set_option linter.all false
set_option maxRecDepth 100000
set_option maxHeartbeats 4000000

/-- A round strap: places below v, rising. -/
structure RingOk (v : Int) (l : List Int) : Prop where
  v2 : 2 ≤ v
  v31 : v ≤ 31
  pos : 0 < l.length
  few : l.length ≤ 31
  rng : ∀ i, i < l.length → 0 ≤ nth l i ∧ nth l i < v
  asc : ∀ i, i + 1 < l.length → nth l i < nth l (i + 1)
theorem RingOk.lt {v : Int} {l : List Int} (s : RingOk v l) {i : Nat} : ∀ {j : Nat}, i < j → j < l.length → nth l i < nth l j
  | j + 1, h, hj => by
    rcases Nat.eq_or_lt_of_le (Nat.le_of_lt_succ h) with e | e
    · subst e; exact s.asc i hj
    · exact Int.lt_trans (s.lt e (by omega)) (s.asc j hj)
/-- Why places are no round strap. -/
inductive RingErr (v : Int) (l : List Int) : Int → Prop where
  | long (h : 31 < l.length) : RingErr v l 3
  | arg (h : l.length ≤ 31) (h2 : v < 2 ∨ 31 < v) : RingErr v l 1
  | form (h : l.length ≤ 31) (h2 : 2 ≤ v ∧ v ≤ 31) (h3 : ¬ RingOk v l) : RingErr v l 2
  | ok (h : RingOk v l) : RingErr v l 0
theorem RingErr.uniq {v : Int} {l : List Int} {a b : Int} (h : RingErr v l a) (k : RingErr v l b) : a = b := by
  cases h with
  | long h => cases k with
    | long _ => rfl
    | arg h2 _ => omega
    | form h2 _ _ => omega
    | ok s => have := s.few; omega
  | arg h h2 => cases k with
    | long _ => omega
    | arg _ _ => rfl
    | form _ h3 _ => omega
    | ok s => have := s.v2; have := s.v31; omega
  | form h h2 h3 => cases k with
    | long _ => omega
    | arg _ _ => omega
    | form _ _ _ => rfl
    | ok s => exact absurd s h3
  | ok s => cases k with
    | long _ => have := s.few; omega
    | arg _ _ => have := s.v2; have := s.v31; omega
    | form _ _ h => exact absurd s h
    | ok _ => rfl
def rOk (v : Int) (l : List Int) (j : Nat) : Bool := decide (0 ≤ nth l j ∧ nth l j < v) && (decide (j = 0) || decide (nth l (j - 1) < nth l j))
/-! ### How often each difference comes -/
def dfF (l : List Int) (v : Int) (i : Nat) (k j : Nat) (c : List Int) : List Int := (List.range' j k).foldl (fun c q => if i = q then c else bump c ((nth l i - nth l q + v).tmod v).toNat) c
def dfO (l : List Int) (v : Int) (k i : Nat) (c : List Int) : List Int := (List.range' i k).foldl (fun c i => dfF l v i l.length 0 c) c
theorem dfF_succ (l : List Int) (v : Int) (i k j : Nat) (c : List Int) : dfF l v i (k + 1) j c = dfF l v i k (j + 1) (if i = j then c else bump c ((nth l i - nth l j + v).tmod v).toNat) := by simp [dfF, List.range'_succ]
theorem Small.dfF {l : List Int} {v : Int} {i : Nat} : ∀ {k j : Nat} {c : List Int} {B : Int}, Small c B → 0 ≤ B → Small (Go.Proofs.Ytpghadmpegncgaa.dfF l v i k j c) (B + k)
  | 0, _, _, _, h, _ => by simpa [Go.Proofs.Ytpghadmpegncgaa.dfF] using h
  | k + 1, j, c, B, h, hB => by
    rw [dfF_succ]
    have h1 : Small (if i = j then c else Go.AM.bump c ((nth l i - nth l j + v).tmod v).toNat) (B + 1) := by
      split
      · intro g; have := h g; omega
      · exact h.bump hB _
    have := h1.dfF (l := l) (v := v) (i := i) (k := k) (j := j + 1) (by omega)
    rwa [show B + 1 + (k : Int) = B + ((k + 1 : Nat) : Int) by omega] at this
def diffs (v : Int) (l : List Int) : List Int := dfO l v l.length 0 (List.replicate v.toNat 0)
theorem RingOk.ne {v : Int} {l : List Int} (s : RingOk v l) {i j : Nat} (hi : i < l.length) (hj : j < l.length) : nth l i = nth l j ↔ i = j := by
  constructor
  · intro h
    rcases Nat.lt_trichotomy i j with q | q | q
    · have := s.lt q hj; omega
    · exact q
    · have := s.lt q hi; omega
  · intro h; rw [h]
end Go.Proofs.Ytpghadmpegncgaa

/-
  STRAPS (13): the code that counts the differences. Conditions: none.
-/
namespace Go.Proofs.Ytpghadmpegncgaa
open Go.AM
open Go.Proofs.Try (prog)
set_option linter.all false
set_option maxRecDepth 100000
set_option maxHeartbeats 4000000

end Go.Proofs.Ytpghadmpegncgaa

/-
  STRAPS (10): Single, and the specification's. Conditions: none.
-/
namespace Go.Proofs.Ytpghadmpegncgaa
open Go.AM
open Go.Proofs.Try (prog)
set_option linter.all false
set_option maxRecDepth 100000
set_option maxHeartbeats 4000000

def endsAt (L : Int) (l : List Int) : Bool := decide (top l = L)
theorem clo_single (last : Int) : Clo (.fn 42 [] []) gSingle 0 last := ⟨rfl, rfl, fun {w l} hv s _ m => by simp [hv.closed, single_spec hv s]⟩
theorem ends_spec {w : AV} {l : List Int} (hv : IsInts w l) (s : StrapOk l) (L : Int) (m : Mem) : denC prog ann 41 [w, .fptr [.int .i64 L]] m = some (.bool (endsAt L l), ⟨m.h, m.nx + 9⟩) := by
  have hpos := s.pos
  have hfew := s.few
  have hlast : l.length - 1 < l.length := by omega
  have hwl : IntKind.wrap .i64 ((l.length : Int) - 1) = ((l.length - 1 : Nat) : Int) := by rw [wrap_id (by omega) (by omega)]; omega
  rw [strap_Single_1.call_eq]
  simp [hv.len, hwl, hv.idx hlast, ints_head hlast, endsAt, top]
  rfl
theorem clo_ends (L : Int) (last : Int) : Clo (.fn 41 [] [.fptr [.int .i64 L]]) (endsAt L) 9 last := ⟨rfl, rfl, fun {w l} hv s _ m => by simp [hv.closed, ends_spec hv s, show (ann 41).pure = false by kernel_rfl]⟩
theorem one_ok : StrapOk [0] := ⟨by decide, by decide, rfl, fun i hi => by simp at hi, by decide⟩
/-- Length after length. -/
def sngS (k : Nat) : Nat → Int → Option (List Int)
  | 0, _ => none
  | n + 1, L => match findF gSingle (endsAt L) L (k - 1) [0] with
    | some r => some r
    | none => sngS k n (L + 1)
theorem sng_loop {k : Nat} (hk : 1 ≤ k ∧ k ≤ 7) : ∀ (n : Nat) (L : Int) (id : Nat) (m : Mem) (r : List Int), 0 ≤ L → L + n ≤ 1000 → m.h id = some (.cells [.int .i64 L]) → sngS k n L = some r →
    ∃ ex, strap_Single.L0 (.int .i64 k) (.ptr id 0 1) m [] = some (.tup [.fsl ex r.length (ints r), .int .i64 0], Mem.empty) := by
  intro n
  induction n with
  | zero => intro L id m r _ _ _ h; cases h
  | succ n ih =>
    intro L id m r h0 h1 hm h
    obtain ⟨w', r1, e1⟩ := find_spec (clo_single L) (clo_ends L L) (size := k) (by omega) ⟨h0, by omega⟩ (k - 1) true [0] one_ok h0 (by simp; omega)
    simp at e1
    simp only [sngS] at h
    have hw : IntKind.wrap .i64 (L + 1) = L + 1 := wrap_id (by omega) (by omega)
    cases hf : findF gSingle (endsAt L) L (k - 1) [0] with
    | some q =>
      rw [hf] at h r1
      obtain ⟨ex, rfl⟩ := r1
      injection h with h
      subst h
      refine ⟨ex, ?_⟩
      rw [strap_Single.L0_eq]
      simp [hm, e1]
      done
    | none =>
      rw [hf] at h r1
      have r1' : w' = .nils := r1
      subst r1'
      obtain ⟨ex, e2⟩ := ih (L + 1) m.nx ⟨upd (upd m.h id none) m.nx (some (.cells [.int .i64 (L + 1)])), m.nx + 1⟩ r (by omega) (by omega) (by simp) h
      refine ⟨ex, ?_⟩
      rw [strap_Single.L0_eq, ← e2]
      simp [hm, e1, hw]
      done
theorem sng_spec {k : Nat} (hk : 1 ≤ k ∧ k ≤ 7) {n : Nat} {L : Int} {r : List Int} (hL : IntKind.wrap .i64 ((IntKind.wrap .i64 ((k : Int) * IntKind.wrap .i64 ((k : Int) - 1))).tdiv 2) = L) (h0 : 0 ≤ L) (h1 : L + n ≤ 1000) (h : sngS k n L = some r) :
    ∃ ex, ∀ m, denC prog ann 13 [.int .i64 k] m = some (.tup [.fsl ex r.length (ints r), .int .i64 0], m) := by
  obtain ⟨ex, e⟩ := sng_loop hk n L 0 ⟨upd Mem.empty.h 0 (some (.cells [.int .i64 L])), 1⟩ r h0 h1 (by simp) h
  refine ⟨ex, fun m => ?_⟩
  have c1 : ¬ (k : Int) < 1 := by omega
  have c2 : ¬ (7 : Int) < k := by omega
  have hcl : closedL [AV.int .i64 k] = true := rfl
  rw [strap_Single.call_eq _ _ hcl]
  simp [c1, c2, hL, e]
  done
/-! ### The specification's -/
def rsF (L : Int) : Nat → List Int → Option (List Int)
  | 0, l => if (tw0 l l.length 0 []).isEmpty = true then (if top l = L then some l else none) else none
  | f + 1, l => if (tw0 l l.length 0 []).isEmpty = true then firstF (rsF L f) l (L - top l).toNat (top l + 1) else none
def rsS (k : Nat) : Nat → Int → Option (List Int)
  | 0, _ => none
  | n + 1, L => match rsF L (k - 1) [0] with
    | some r => some r
    | none => rsS k n (L + 1)
end Go.Proofs.Ytpghadmpegncgaa
