/-
  FLAGS: WHAT THE HANDS SAY. Conditions: none.
-/
import Derived.Test.YtdkmepjedjclkaaKSCutE
import Derived.Test.YtdkmepjedjclkaaKSWClkC
import Derived.Test.YtdkmepjedjclkaaKSVec
import Derived.Test.YtdkmepjedjclkaaKBFlags
set_option linter.all false
namespace Go.Proofs.Ytdkmepjedjclkaa
open Go.AM
open Go.Proofs.Try (prog)
set_option linter.all false
set_option maxRecDepth 100000
set_option maxHeartbeats 4000000

/-- Do all hands from h on say yes at a cut? -/
def yesR (F : List (List Bool)) (c : List Int) (k h : Nat) : Bool := (List.range' h k).all fun h => bnth (gth F h) (nth c h).toNat
def yesB (F : List (List Bool)) (c : List Int) : Bool := yesR F c F.length 0
theorem yesR_succ (F : List (List Bool)) (c : List Int) (k h : Nat) : yesR F c (k + 1) h = (bnth (gth F h) (nth c h).toNat && yesR F c k (h + 1)) := by simp [yesR, List.range'_succ]
/-- Are the flags those of the deeds? -/
structure FlagsOk (D : List Int) (F : List (List Bool)) : Prop where
  n : F.length = D.length
  w : ∀ h, h < D.length → ((gth F h).length : Int) = nth D h + 1
def flagsB (D : List Int) (F : List (List Bool)) : Bool := decide (F.length = D.length) && (List.range' 0 D.length).all fun h => decide (((gth F h).length : Int) = nth D h + 1)
theorem flagsB_iff {D : List Int} {F : List (List Bool)} : flagsB D F = true ↔ FlagsOk D F := by
  simp only [flagsB, Bool.and_eq_true, decide_eq_true_eq, List.all_eq_true, List.mem_range'_1]
  exact ⟨fun ⟨a, b⟩ => ⟨a, fun h hh => b h ⟨by omega, by omega⟩⟩, fun ⟨a, b⟩ => ⟨a, fun h hh => b h (by omega)⟩⟩

theorem yes_loop {vF : AV} {cs : List AV} {F : List (List Bool)} (hF : IsVec IsBools vF cs F) {c : List Int} (hc4 : c.length = 4) (hF4 : F.length ≤ 4) (hw : ∀ h, h < F.length → 0 ≤ nth c h ∧ nth c h < (gth F h).length) : ∀ (k h : Nat) (m : Mem), h + k = F.length →
    watch_says_yes.L0 (.fptr (ints c)) vF (.int .i64 F.length) (.int .i64 h) m [.code watch_says_yes.r7, .code .ret] = some (.bool (yesR F c k h), Mem.empty) := by
  intro k
  induction k with
  | zero =>
    intro h m h1
    have e : h = F.length := by omega
    rw [watch_says_yes.L0_eq]
    simp [e, yesR]
    done
  | succ k ih =>
    intro h m h1
    have hh : h < F.length := by omega
    obtain ⟨w0, w1⟩ := hw h hh
    have hwr : IntKind.wrap .i64 ((h : Int) + 1) = (h : Int) + 1 := wrap_id (by omega) (by omega)
    have hi := fun m => ih (h + 1) m (by omega)
    simp only [Int.natCast_add, Int.cast_ofNat_Int] at hi
    have hb := hF.at hh
    obtain ⟨j, hj⟩ : ∃ j : Nat, nth c h = j := ⟨(nth c h).toNat, by omega⟩
    rw [hj] at w1
    have hjl : j < (gth F h).length := by omega
    have i1 := hb.idx (boolC_len _) hjl .i64
    have i2 := bool_load hjl
    rw [watch_says_yes.L0_eq, yesR_succ, hj, Int.toNat_natCast]
    have hc : h < c.length := by omega
    cases q : bnth (gth F h) j with
    | false => simp [hh, hF.idx hh, hF.load hh, show h < 4 by omega, ints_head hc, hj, i1, i2, q]
    | true => simp [hh, hF.idx hh, hF.load hh, show h < 4 by omega, ints_head hc, hj, i1, i2, q, hwr, hi]

theorem yes_spec {sv vF : AV} {cs : List AV} {F : List (List Bool)} (hsv : sv.closed = true) (hso : sv.one = true) (hF : IsVec IsBools vF cs F) {c : List Int} (hc4 : c.length = 4) (hF4 : F.length ≤ 4) (hw : ∀ h, h < F.length → 0 ≤ nth c h ∧ nth c h < (gth F h).length) (m : Mem) :
    denC prog ann 101 [.agg [sv, vF], .agg (ints c)] m = some (.bool (yesB F c), m) := by
  rw [watch_says_yes.call_eq _ _ _ (by simp [hsv, hF.closed])]
  have := yes_loop hF hc4 hF4 hw F.length 0 Mem.empty (by omega)
  simp only [Int.cast_ofNat_Int, Int.ofNat_zero] at this
  simp [hsv, hso, hF.closed, hF.one, hF.len, this, yesB]

/-- What flagsOf hands back. -/
inductive FlagsRes (D : List Int) (N : List Note) (F : List (List Bool)) (vF : AV) : AV → Int → Prop where
  | bad (h : ¬ ValidS D N) : FlagsRes D N F vF (.agg [.nilp, .nils]) 1
  | form (v : ValidS D N) (h : ¬ FlagsOk D F) : FlagsRes D N F vF (.agg [.nilp, .nils]) 2
  | ok {sv : AV} {K : List (List (List Int))} (v : ValidS D N) (h : FlagsOk D F) (k : Clocks D N K) (s : IsStory sv D.length (pad D) K) : FlagsRes D N F vF (.agg [sv, vF]) 0

theorem flags_loop {D4 : List Int} {V : List AV} {n : Nat} {vF : AV} {cs : List AV} {F : List (List Bool)} (hF : IsVec IsBools vF cs F) (hD : D4.length = 4) (hV : V.length = 4) (hn : F.length = n) (hn4 : n ≤ 4) (hB : ∀ h, 0 ≤ nth D4 h ∧ nth D4 h ≤ 6) : ∀ (k h : Nat) (m : Mem), h + k = n → m.h 0 = some (.cells [.nilp, .nils]) →
    watch_flagsOf.L1 vF (.ptr 0 0 2) (.fptr (.int .i64 n :: (ints D4 ++ V))) vF (.int .i64 n) (.int .i64 h) m [.code watch_flagsOf.r12, .code .ret] =
      some (if ((List.range' h k).all fun h => decide (((gth F h).length : Int) = nth D4 h + 1)) = true then .tup [.agg [.fptr (.int .i64 n :: (ints D4 ++ V)), vF], .int .i64 0] else .tup [.agg [.nilp, .nils], .int .i64 2], Mem.empty) := by
  intro k
  induction k with
  | zero =>
    intro h m h1 hm
    have e : h = n := by omega
    rw [watch_flagsOf.L1_eq]
    simp [e, hm, hF.one, hF.cells, hF.deep]
    done
  | succ k ih =>
    intro h m h1 hm
    have hh : h < n := by omega
    have hhF : h < F.length := by omega
    obtain ⟨b0, b1⟩ := hB h
    have hwr : IntKind.wrap .i64 ((h : Int) + 1) = (h : Int) + 1 := wrap_id (by omega) (by omega)
    have hwd : IntKind.wrap .i64 (nth D4 h + 1) = nth D4 h + 1 := wrap_id (by omega) (by omega)
    have hi := ih (h + 1) m (by omega) hm
    simp only [Int.natCast_add, Int.cast_ofNat_Int] at hi
    have hb := hF.at hhF
    have hld : (ints D4 ++ V)[h]? = some (.int .i64 (nth D4 h)) := by rw [List.getElem?_append_left (by simp; omega), ints_nth (by omega)]
    rw [watch_flagsOf.L1_eq]
    by_cases q : ((gth F h).length : Int) = nth D4 h + 1
    · have e1 : ((List.range' h (k + 1)).all fun h => decide (((gth F h).length : Int) = nth D4 h + 1)) = ((List.range' (h + 1) k).all fun h => decide (((gth F h).length : Int) = nth D4 h + 1)) := by
        rw [List.range'_succ, List.all_cons, decide_eq_true q, Bool.true_and]
      rw [e1]
      simp [hh, hF.idx hhF, hF.load hhF, hb.len, show h < 4 by omega, hld, hwd, q, hwr, hi]
      done
    · have e1 : ((List.range' h (k + 1)).all fun h => decide (((gth F h).length : Int) = nth D4 h + 1)) = false := by
        rw [List.range'_succ, List.all_cons, decide_eq_false q, Bool.false_and]
      rw [e1]
      simp [hh, hF.idx hhF, hF.load hhF, hb.len, show h < 4 by omega, hld, hwd, q, hm]
      done

theorem flagsOf_spec {v vF : AV} {D : List Int} {N : List Note} {cs : List AV} {F : List (List Bool)} (hs : IsTale v D N) (hl : D.length < 100000) (hn : N.length < 100000) (hF : IsVec IsBools vF cs F) (hFl : F.length < 100000) :
    ∃ x e, FlagsRes D N F vF x e ∧ ∀ m, denC prog ann 100 [v, vF] m = some (.tup [x, .int .i64 e], m) := by
  obtain ⟨r, hr, er⟩ := readV_spec hs hl hn
  obtain ⟨vD, vN, rfl, h1, h2⟩ := hs.ex
  have hcl : closedL [.agg [vD, vN], vF] = true := by simp [h1.closed, h2.closed, hF.closed]
  cases hr with
  | no h =>
    refine ⟨_, _, .bad h, fun m => ?_⟩
    rw [watch_flagsOf.call_eq _ _ _ hcl]
    simp [h1.one, h2.one, h1.closed, h2.closed, er]
  | @ok sv K val k s =>
    have s' := s
    obtain ⟨V, rfl, hV, hS⟩ := s.V
    by_cases q : F.length = D.length
    · have hB : ∀ h, 0 ≤ nth (pad D) h ∧ nth (pad D) h ≤ 6 := fun h => by rw [nth_pad]; exact ⟨val.lo h, val.hi h⟩
      have lp := flags_loop hF s'.D4 hV q s'.n4 hB D.length 0 ⟨upd Mem.empty.h 0 (some (.cells [.nilp, .nils])), 1⟩ (by omega) (by simp)
      simp only [Int.cast_ofNat_Int, Int.ofNat_zero] at lp
      have hb : ((List.range' 0 D.length).all fun h => decide (((gth F h).length : Int) = nth (pad D) h + 1)) = flagsB D F := by
        simp [flagsB, q, nth_pad]
      rw [hb] at lp
      cases hq : flagsB D F with
      | true =>
        rw [hq] at lp
        refine ⟨_, _, .ok val (flagsB_iff.1 hq) k s', fun m => ?_⟩
        rw [watch_flagsOf.call_eq _ _ _ hcl]
        simp at lp
        simp [h1.one, h2.one, h1.closed, h2.closed, er, hF.len, q, lp]
        done
      | false =>
        rw [hq] at lp
        refine ⟨_, _, .form val (fun h => by rw [flagsB_iff.2 h] at hq; cases hq), fun m => ?_⟩
        rw [watch_flagsOf.call_eq _ _ _ hcl]
        simp at lp
        simp [h1.one, h2.one, h1.closed, h2.closed, er, hF.len, q, lp]
        done
    · refine ⟨_, _, .form val (fun h => q h.n), fun m => ?_⟩
      have q' : ¬ (F.length : Int) = D.length := by omega
      rw [watch_flagsOf.call_eq _ _ _ hcl]
      simp [h1.one, h2.one, h1.closed, h2.closed, er, hF.len, q, q']
      done
end Go.Proofs.Ytdkmepjedjclkaa
