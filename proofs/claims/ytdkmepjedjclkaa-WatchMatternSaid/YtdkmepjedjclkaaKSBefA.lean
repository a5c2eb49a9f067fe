/-
  Before, AND WHAT A DEED IS. Conditions: none.
-/
import Derived.Test.YtdkmepjedjclkaaKSLawE
import Derived.Test.YtdkmepjedjclkaaKTCuts
import Derived.Test.YtdkmepjedjclkaaKBBefore
set_option linter.all false
namespace Go.Proofs.Ytdkmepjedjclkaa
open Go.AM
open Go.Proofs.Try (prog)
set_option linter.all false
set_option maxRecDepth 100000
set_option maxHeartbeats 4000000

theorem flat50 : flatT prog 50 = some [3, 3] := by kernel_rfl
theorem neq50 (a b c d : Int) : binA prog .neq 50 (.agg [.int .i64 a, .int .i64 b]) (.agg [.int .i64 c, .int .i64 d]) = some (.bool (!decide ([a, b] = [c, d]))) := by
  have h := eqCs_ints 2 [a, b] [c, d] rfl rfl
  simp [List.replicate] at h
  simp [binA, eqT, eqA, u50, flat50, h]

/-- What Before hands back. -/
inductive BefRes (D : List Int) (N : List Note) (a b c d : Int) : Bool → Int → Prop where
  | bad (h : ¬ ValidS D N) : BefRes D N a b c d false 1
  | form (v : ValidS D N) (h : (deedOk D a b && deedOk D c d) = false) : BefRes D N a b c d false 2
  | ok {K : List (List (List Int))} (v : ValidS D N) (h : deedOk D a b = true) (h' : deedOk D c d = true) (k : Clocks D N K) : BefRes D N a b c d (!decide ([a, b] = [c, d]) && decide (b ≤ kn K c.toNat (d.toNat - 1) a.toNat)) 0

theorem beforeV_spec {v : AV} {D : List Int} {N : List Note} (hs : IsTale v D N) (hl : D.length < 100000) (hn : N.length < 100000) {a b c d : Int} (hb : I64 b) (hd : I64 d) :
    ∃ x e, BefRes D N a b c d x e ∧ ∀ m, denC prog ann 32 [v, .agg [.int .i64 a, .int .i64 b], .agg [.int .i64 c, .int .i64 d]] m = some (.tup [.bool x, .int .i64 e], m) := by
  have hs' := hs
  obtain ⟨r, hr, er⟩ := readV_spec hs hl hn
  obtain ⟨vD, vN, rfl, h1, h2⟩ := hs.ex
  have hcl : closedL [.agg [vD, vN], .agg [.int .i64 a, .int .i64 b], .agg [.int .i64 c, .int .i64 d]] = true := by simp [h1.closed, h2.closed]
  cases hr with
  | no h =>
    refine ⟨false, 1, .bad h, fun m => ?_⟩
    rw [watch_Before.call_eq _ _ _ _ hcl]
    simp [h1.one, h2.one, h1.closed, h2.closed, er]
  | @ok sv K val k s =>
    have s' := s
    obtain ⟨V, rfl, hV, hS⟩ := s.V
    have hn4 := s.n4
    have hD4 := s.D4
    have hld : ∀ g : Int, 0 ≤ g → g < D.length → (ints (pad D) ++ V)[g.toNat]? = some (.int .i64 (nth D g.toNat)) := fun g h0 h1 => by rw [List.getElem?_append_left (by simp; omega), ints_nth (by omega), nth_pad]
    by_cases q1 : a < 0
    · refine ⟨false, 2, .form val (by simp only [deedOk, Bool.and_eq_false_iff, decide_eq_false_iff_not]; omega), fun m => ?_⟩
      rw [watch_Before.call_eq _ _ _ _ hcl]
      simp [watch_Before.L0_eq, h1.one, h2.one, h1.closed, h2.closed, er, q1]
      done
    by_cases q2 : (D.length : Int) ≤ a
    · refine ⟨false, 2, .form val (by simp only [deedOk, Bool.and_eq_false_iff, decide_eq_false_iff_not]; omega), fun m => ?_⟩
      rw [watch_Before.call_eq _ _ _ _ hcl]
      simp [watch_Before.L0_eq, h1.one, h2.one, h1.closed, h2.closed, er, q1, q2]
      done
    by_cases q3 : b < 1
    · refine ⟨false, 2, .form val (by simp only [deedOk, Bool.and_eq_false_iff, decide_eq_false_iff_not]; omega), fun m => ?_⟩
      rw [watch_Before.call_eq _ _ _ _ hcl]
      simp [watch_Before.L0_eq, h1.one, h2.one, h1.closed, h2.closed, er, q1, q2, q3]
      done
    by_cases q4 : nth D a.toNat < b
    · refine ⟨false, 2, .form val (by simp only [deedOk, Bool.and_eq_false_iff, decide_eq_false_iff_not]; omega), fun m => ?_⟩
      rw [watch_Before.call_eq _ _ _ _ hcl]
      simp [watch_Before.L0_eq, h1.one, h2.one, h1.closed, h2.closed, er, q1, q2, q3, q4, hld a (by omega) (by omega), show a < 4 by omega, show 0 ≤ a by omega, hD4]
      done
    by_cases q12 : c < 0
    · refine ⟨false, 2, .form val (by simp only [deedOk, Bool.and_eq_false_iff, decide_eq_false_iff_not]; omega), fun m => ?_⟩
      rw [watch_Before.call_eq _ _ _ _ hcl]
      simp [watch_Before.L0_eq, h1.one, h2.one, h1.closed, h2.closed, er, q1, q2, q3, q4, hld a (by omega) (by omega), show a < 4 by omega, show 0 ≤ a by omega, hD4, q12]
      done
    by_cases q22 : (D.length : Int) ≤ c
    · refine ⟨false, 2, .form val (by simp only [deedOk, Bool.and_eq_false_iff, decide_eq_false_iff_not]; omega), fun m => ?_⟩
      rw [watch_Before.call_eq _ _ _ _ hcl]
      simp [watch_Before.L0_eq, h1.one, h2.one, h1.closed, h2.closed, er, q1, q2, q3, q4, hld a (by omega) (by omega), show a < 4 by omega, show 0 ≤ a by omega, hD4, q12, q22]
      done
    by_cases q32 : d < 1
    · refine ⟨false, 2, .form val (by simp only [deedOk, Bool.and_eq_false_iff, decide_eq_false_iff_not]; omega), fun m => ?_⟩
      rw [watch_Before.call_eq _ _ _ _ hcl]
      simp [watch_Before.L0_eq, h1.one, h2.one, h1.closed, h2.closed, er, q1, q2, q3, q4, hld a (by omega) (by omega), show a < 4 by omega, show 0 ≤ a by omega, hD4, q12, q22, q32]
      done
    by_cases q42 : nth D c.toNat < d
    · refine ⟨false, 2, .form val (by simp only [deedOk, Bool.and_eq_false_iff, decide_eq_false_iff_not]; omega), fun m => ?_⟩
      rw [watch_Before.call_eq _ _ _ _ hcl]
      simp [watch_Before.L0_eq, h1.one, h2.one, h1.closed, h2.closed, er, q1, q2, q3, q4, hld a (by omega) (by omega), show a < 4 by omega, show 0 ≤ a by omega, hD4, q12, q22, q32, q42, hld c (by omega) (by omega), show c < 4 by omega, show 0 ≤ c by omega, hD4]
      done
    obtain ⟨ci, rfl⟩ : ∃ ci : Nat, c = ci := ⟨c.toNat, by omega⟩
    obtain ⟨ai, rfl⟩ : ∃ ai : Nat, a = ai := ⟨a.toNat, by omega⟩
    obtain ⟨j, rfl⟩ : ∃ j : Nat, d = (j : Int) + 1 := ⟨d.toNat - 1, by omega⟩
    simp only [Int.toNat_natCast] at *
    have hc4 : ci < 4 := by omega
    have hci : ci < D.length := by omega
    have hj : j < (kth K ci).length := by have := k.I.rows ci hci; omega
    have hwj : IntKind.wrap .i64 (j : Int) = (j : Int) := wrap_id (by omega) (by have := hd.2; omega)
    have hcl4 : (cth (kth K ci) j).length = 4 := s'.four ci _ (cth_mem hj)
    have hhead : (flatC ints ((kth K ci).drop j))[ai]? = some (.int .i64 (nth (cth (kth K ci) j) ai)) := by
      rw [flatC_at (cth_eq hj), List.getElem?_append_left (by simp; omega), ints_nth (by omega)]
    refine ⟨_, 0, .ok val (by simp [deedOk]; omega) (by simp [deedOk]; omega) k, fun m => ?_⟩
    rw [watch_Before.call_eq _ _ _ _ hcl]
    have hlA := hld ai (by omega) (by omega)
    have hlC := hld ci (by omega) (by omega)
    simp only [Int.toNat_natCast] at hlA hlC
    have e1 : ((j : Int) + 1).toNat - 1 = j := by omega
    by_cases q : [(ai : Int), b] = [(ci : Int), (j : Int) + 1]
    · simp [watch_Before.L0_eq, h1.one, h2.one, h1.closed, h2.closed, er, q1, q2, q3, q4, q12, q22, q32, q42, hlA, hlC, hc4, hD4, show ai < 4 by omega, neq50, q, e1]
      done
    · simp [watch_Before.L0_eq, h1.one, h2.one, h1.closed, h2.closed, er, q1, q2, q3, q4, q12, q22, q32, q42, hlA, hlC, hc4, hD4, show ai < 4 by omega, neq50, q, e1, vth_head (show ci < V.length by omega), (hS ci hc4).idx (s'.four ci).cells hj, hwj, hhead]
      done
end Go.Proofs.Ytdkmepjedjclkaa
