/-
  WatchBefore RETURNS TRUE. Conditions: none.
-/
import Derived.Test.YtdkmepjedjclkaaKClk
import Derived.Test.YtdkmepjedjclkaaKSDat
set_option linter.all false
namespace Go.Proofs.Ytdkmepjedjclkaa
open Go.AM
open Go.Proofs.Try (prog)
set_option linter.all false
set_option maxRecDepth 100000
set_option maxHeartbeats 4000000

theorem clkC_len (C : List (List (List Int))) : ∀ x ∈ C, (clkC x).length = 1 := fun _ _ => rfl
theorem kth_eq {C : List (List (List Int))} {i : Nat} (h : i < C.length) : C[i]? = some (kth C i) := by
  rw [List.getElem?_eq_getElem h]; simp [kth, List.getD, List.getElem?_eq_getElem h]
theorem load_clk {C : List (List (List Int))} {i : Nat} (h : i < C.length) : loadF false 1 (.fptr (flatC clkC (C.drop i))) = some (.fsl false (kth C i).length (flatC rowC (kth C i))) := by
  rw [flatC_at (kth_eq h)]; simp [clkC]
theorem load_row {R : List (List Int)} {i : Nat} (h : i < R.length) : loadF false 1 (.fptr (flatC rowC (R.drop i))) = some (.fsl false (cth R i).length (ints (cth R i))) := by
  rw [flatC_at (cth_eq h)]; simp [rowC]
theorem clkV_idx {C : List (List (List Int))} {i : Nat} (h : i < C.length) (k : IntKind) : idxSl 1 (clkV C) (.int k (i : Int)) = some (.fptr (flatC clkC (C.drop i))) := (IsSl.fsl (f := clkC) false C).idx (clkC_len C) h k
@[simp] theorem clkV_closed (C : List (List (List Int))) : (clkV C).closed = true := rfl
@[simp] theorem clkV_one (C : List (List (List Int))) : (clkV C).one = true := rfl
@[simp] theorem clkV_cells (C : List (List (List Int))) : (clkV C).cells = [clkV C] := rfl
@[simp] theorem clkV_deep (C : List (List (List Int))) (h : Nat → Option AObj) (d : Nat) : deep h (d + 1) (clkV C) = some (clkV C) := rfl

theorem neq27 (a b : Int) : binA prog .neq 27 (.int .i64 a) (.int .i64 b) = some (.bool (!decide (a = b))) := by simp

theorem before_runs {d : Nat} (a0 a1 a2 : AV) (h0 : DatV prog (d + 4) 25 a0) (h1 : DatV prog (d + 4) 50 a1) (h2 : DatV prog (d + 4) 50 a2) : ∃ m', denC prog ann 6 [a0, a1, a2] Mem.empty = some (.bool true, m') := by
  obtain ⟨D, N, hs, kD, kN⟩ := dat25 h0
  obtain ⟨a, b, rfl, ia, ib⟩ := datV50 h1
  obtain ⟨c, e, rfl, ic, ie⟩ := datV50 h2
  obtain ⟨v, ht, hc⟩ := cut_spec hs kD kN
  generalize hD' : D.take 5 = D' at ht
  generalize hN' : N.take 25 = N' at ht
  have l1 : D'.length ≤ 5 := by rw [← hD']; simp; omega
  have l2 : N'.length ≤ 25 := by rw [← hN']; simp; omega
  obtain ⟨x, er, hr, hbe⟩ := beforeV_spec ht (by omega) (by omega) (a := a) (b := b) (c := c) (d := e) ib ie
  obtain ⟨bb, hb, eb⟩ := valid_spec ht (by omega) (by omega)
  have dl := deedL_spec ht (by omega)
  have ht' := ht
  obtain ⟨wD, wN, rfl, g1, g2⟩ := ht.ex
  obtain ⟨vD, vN, rfl, f1, f2⟩ := hs.ex
  refine ⟨Mem.empty, ?_⟩
  rw [l09_WatchBefore.call_eq _ _ _ _ (by simp [f1.closed, f2.closed])]
  cases bb with
  | false =>
    have hv : ¬ ValidS D' N' := fun v => by have := hb.2 v; cases this
    cases hr with
    | bad h => simp [f1.one, f2.one, f1.closed, f2.closed, g1.one, g2.one, g1.closed, g2.closed, hc, hbe, eb, lives_spec, g1.deep, g2.deep]
    | form v h => exact absurd v hv
    | ok v h h' k => exact absurd v hv
  | true =>
    have hv : ValidS D' N' := hb.1 rfl
    cases hr with
    | bad h => exact absurd hv h
    | form v h =>
      cases q1 : deedOk D' a b with
      | false => simp [f1.one, f2.one, f1.closed, f2.closed, g1.one, g2.one, g1.closed, g2.closed, hc, hbe, eb, lives_spec, g1.deep, g2.deep, dl, q1]
      | true =>
        have q2 : deedOk D' c e = false := by rw [q1] at h; simpa using h
        simp [f1.one, f2.one, f1.closed, f2.closed, g1.one, g2.one, g1.closed, g2.closed, hc, hbe, eb, lives_spec, g1.deep, g2.deep, dl, q1, q2]
    | @ok K v h h' k =>
      obtain ⟨C, I, ek, ec⟩ := clocksR_spec ht' v k
      have p1 := h
      have p2 := h'
      simp only [deedOk, Bool.and_eq_true, decide_eq_true_eq] at p1 p2
      obtain ⟨ci, rfl⟩ : ∃ ci : Nat, c = ci := ⟨c.toNat, by omega⟩
      obtain ⟨ai, rfl⟩ : ∃ ai : Nat, a = ai := ⟨a.toNat, by omega⟩
      obtain ⟨j, rfl⟩ : ∃ j : Nat, e = (j : Int) + 1 := ⟨e.toNat - 1, by omega⟩
      simp only [Int.toNat_natCast] at p1 p2
      have hC := I.len
      have hrow := I.rows ci (by omega)
      have hj : j < (kth C ci).length := by omega
      have hw := I.wid ci _ (cth_mem hj)
      have ek' := ek ci j (by omega) ai
      have hci : ci < C.length := by omega
      have hai : ai < (cth (kth C ci) j).length := by omega
      have i1 := clkV_idx hci .i64
      have i2 := load_clk hci
      have i3 := (IsSl.fsl (f := rowC) false (kth C ci)).idx (rowC_len _) hj .i64
      have i4 := load_row hj
      have i5 := (IsInts.fsl false (cth (kth C ci) j)).idx hai .i64
      have i6 := ints_head hai
      have e1 : ((j : Int) + 1).toNat - 1 = j := by omega
      have hwj : IntKind.wrap .i64 (j : Int) = (j : Int) := wrap_id (by omega) (by have := ie.2; omega)
      have ek2 : nth (cth (kth C ci) j) ai = kn K ci j ai := ek'
      by_cases q : [(ai : Int), b] = [(ci : Int), (j : Int) + 1]
      · simp [f1.one, f2.one, f1.closed, f2.closed, g1.one, g2.one, g1.closed, g2.closed, hc, hbe, eb, lives_spec, g1.deep, g2.deep, dl, h, h', ec, neq50, q, eql4]
        done
      · simp [f1.one, f2.one, f1.closed, f2.closed, g1.one, g2.one, g1.closed, g2.closed, hc, hbe, eb, lives_spec, g1.deep, g2.deep, dl, h, h', ec, neq50, q, eql4, i1, i2, i3, i4, i5, i6, e1, hwj, ek2]
        done
end Go.Proofs.Ytdkmepjedjclkaa
