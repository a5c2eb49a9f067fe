/-
  PLANS: the brand is valid. Conditions: none.
-/
import Derived.Test.YthnpflkpjimkfaaK06
import Derived.Test.YthnpflkpjimkfaaKAmH
import Derived.Test.YthnpflkpjimkfaaK01
import Derived.Test.YthnpflkpjimkfaaK00
set_option linter.all false
namespace Go.Proofs.Ythnpflkpjimkfaa
open Go.AM
open Go.Proofs.Try (prog)
set_option linter.all false
set_option maxRecDepth 100000
set_option maxHeartbeats 8000000

theorem VB.to {rows : List (List Int)} {good : List Bool} {k : Nat} (v : VB rows good k) : validB rows good = true := by
  have h0 := v.rl 0 v.n1
  unfold validB
  simp only [Bool.and_eq_true, decide_eq_true_eq, List.all_eq_true]
  refine ⟨⟨v.n1, v.n6⟩, v.gl, ⟨by rw [h0]; exact v.k1, by rw [h0]; exact v.k3⟩, fun r hr => ?_⟩
  obtain ⟨i, hi, rfl⟩ := List.getElem_of_mem hr
  have e : cth rows i = rows[i] := by simp [cth, hi, List.getD_eq_getElem?_getD]
  have hl := v.rl i hi
  rw [e] at hl
  unfold rowOk
  simp only [Bool.and_eq_true, decide_eq_true_eq, List.all_eq_true]
  refine ⟨by rw [hl, h0], fun x hx => ?_⟩
  obtain ⟨j, hj, rfl⟩ := List.getElem_of_mem hx
  have := v.rg i j hi (by omega)
  rw [e] at this
  rw [nth_get hj]
  exact this
theorem VB.k0 {rows : List (List Int)} {good : List Bool} {k : Nat} (v : VB rows good k) : (cth rows 0).length = k := v.rl 0 v.n1
theorem planVB {l : List Nat} {n k q : Nat} (n1 : 1 ≤ n) (n6 : n ≤ 6) (k1 : 1 ≤ k) (k3 : k ≤ 3) : VB (rowsP l n k q n) (goodP q n) k := by
  have row : ∀ i, i < n → cth (rowsP l n k q n) i = rowP l n k q i k := fun i hi => by simp [cth, rowsP, hi, List.getD_eq_getElem?_getD]
  refine ⟨by simp [rowsP]; omega, by simp [rowsP]; omega, by simp [rowsP, goodP], k1, k3, fun i hi => ?_, fun i j hi hj => ?_⟩
  · rw [row i (by simpa [rowsP] using hi)]; simp [rowP]
  · have hi' : i < n := by simpa [rowsP] using hi
    rw [row i hi']
    have e : nth (rowP l n k q i k) j = ((entP l n k q i j : Nat) : Int) := by simp [nth, rowP, hj, List.getD_eq_getElem?_getD]
    have := entP_lt (l := l) (k := k) (q := q) (a := j) hi'
    rw [e]
    simp only [rowsP, List.length_map, List.length_range]
    omega
theorem planR {l : List Nat} {n k q : Nat} : IsRows (.fsl false n (pslP l n k q n)) (pslP l n k q n) (rowsP l n k q n) := by
  refine ⟨by simp [pslP, rowsP], fun i hi => ?_, .inr ⟨false, by simp [rowsP]⟩⟩
  have hi' : i < n := by simpa [rowsP] using hi
  have e1 : pth (pslP l n k q n) i = .fsl false k (ints (rowP l n k q i k)) := by simp [pth, pslP, hi', List.getD_eq_getElem?_getD]
  have e2 : cth (rowsP l n k q n) i = rowP l n k q i k := by simp [cth, rowsP, hi', List.getD_eq_getElem?_getD]
  rw [e1, e2]
  exact .inr ⟨false, by simp [rowP]⟩
theorem planG {q n : Nat} : IsB (.fsl false n (bls (goodP q n))) (goodP q n) := .inr ⟨false, by simp [goodP]⟩
theorem plan_spec {a0 a1 q : Nat} {nv : AV} {l : List Nat} (h0 : a0 < 256) (h1 : a1 < 256) (hq : q < 256) (hb : IsBy nv l) (hlb : ∀ x ∈ l, x < 256) :
    ∃ rows good k nv' gv ps, IsRows nv' ps rows ∧ IsB gv good ∧ VB rows good k ∧ ∀ m, denC prog ann 22 [.agg [.int .u8 (a0 : Nat), .int .u8 (a1 : Nat), nv, .int .u8 (q : Nat)]] m = some (.agg [nv', gv], m) := by
  have hn : 1 ≤ a0 % 6 + 1 ∧ a0 % 6 + 1 ≤ 6 := by omega
  have hk : 1 ≤ a1 % 3 + 1 ∧ a1 % 3 + 1 ≤ 3 := by omega
  refine ⟨rowsP l (a0 % 6 + 1) (a1 % 3 + 1) q (a0 % 6 + 1), goodP q (a0 % 6 + 1), a1 % 3 + 1, _, _, pslP l (a0 % 6 + 1) (a1 % 3 + 1) q (a0 % 6 + 1), planR, planG, planVB hn.1 hn.2 hk.1 hk.2, fun m => ?_⟩
  have c0 := wrapN (x := a0) (by omega)
  have c1 := wrapN (x := a1) (by omega)
  have m0 : ((a0 : Nat) : Int).tmod 6 = ((a0 % 6 : Nat) : Int) := by rw [Int.tmod_eq_emod_of_nonneg (by omega)]; simp
  have m1 : ((a1 : Nat) : Int).tmod 3 = ((a1 % 3 : Nat) : Int) := by rw [Int.tmod_eq_emod_of_nonneg (by omega)]; simp
  have w0 : IntKind.wrap .i64 (((a0 % 6 : Nat) : Int) + 1) = ((a0 % 6 + 1 : Nat) : Int) := by
    rw [wrap_id (by omega) (by omega)]; omega
  have w1 : IntKind.wrap .i64 (((a1 % 3 : Nat) : Int) + 1) = ((a1 % 3 + 1 : Nat) : Int) := by
    rw [wrap_id (by omega) (by omega)]; omega
  generalize a0 % 6 = n0 at *
  generalize a1 % 3 = k0 at *
  have lp := pl_out (a0 := a0) (a1 := a1) hb hlb (q := q) (n := n0 + 1) (k := k0 + 1) hq hn.1 hn.2 hk.1 hk.2 (o := 13) (lo := 14) (by omega) (by omega) (n0 + 1) 0 (upd (upd Mem.empty.h 0 (some (.cells [.nils, .nils]))) 13 (some (.cells [.nils, .nils]))) 14 .nils .nils (by omega) (by omega) ⟨by simp, by simp, .nil, .nil, by simp [objId]⟩
  simp only [Int.ofNat_zero, Int.cast_ofNat_Int, KP0] at lp
  rw [l07_Plan_made.call_eq _ _ (by simp [hb.closed])]
  simp [hb.one, hb.closed, c0, c1, m0, m1, w0, w1, -Int.natCast_add, -Int.natCast_emod]
  rw [lp]
  rfl
end Go.Proofs.Ythnpflkpjimkfaa

/-
  BODIES OF FUNCTIONS OF THE PROGRAM AS SMALL OPERATIONS (written by gen.py; checked by the kernel against the program). Conditions: none.
-/
namespace Go.Proofs.Ythnpflkpjimkfaa
open Go.AM
open Go.Proofs.Try (prog)
set_option maxRecDepth 100000
set_option linter.all false


namespace brand_Reset
/-- pommel/brand.Reset -/
noncomputable def b : Code := (Try.f23.body).getD .skip
theorem hf : prog.funcs[23]? = some Try.f23 := by kernel_rfl
noncomputable def r0 : Code := findReg b 0
noncomputable def r1 : Code := findReg b 1
noncomputable def i0 : Code := findCond b 0
noncomputable def i0t : Code := thenOf i0
noncomputable def i0e : Code := elseOf i0
noncomputable def r2 : Code := findReg b 2
noncomputable def r3 : Code := findReg b 3
noncomputable def r4 : Code := findReg b 4
noncomputable def r5 : Code := findReg b 5
noncomputable def k0 : Code := findBlk b 0
noncomputable def l0 : Code := loopOf k0
noncomputable def L0 (x1 x5 x6 : AV) (m : Mem) (K : List Item) : Option Res := den prog ann 23 (.code l0 :: .inLoop l0 :: .inBlock 0 :: K) ⟨[(1, x1), (5, x5), (6, x6)], 93, m⟩
noncomputable def r6 : Code := findReg b 6
noncomputable def i1 : Code := findCond b 1
noncomputable def i1t : Code := thenOf i1
noncomputable def i1e : Code := elseOf i1
noncomputable def k1 : Code := findBlk b 1
noncomputable def r8 : Code := findReg b 8
noncomputable def r9 : Code := findReg b 9
noncomputable def i2 : Code := findCond b 2
noncomputable def i2t : Code := thenOf i2
noncomputable def i2e : Code := elseOf i2
noncomputable def r10 : Code := findReg b 10
noncomputable def r11 : Code := findReg b 11
noncomputable def k2 : Code := findBlk b 2
noncomputable def l2 : Code := loopOf k2
noncomputable def L2 (x1 x5 x6 x7 x47 x48 : AV) (m : Mem) (K : List Item) : Option Res := den prog ann 23 (.code l2 :: .inLoop l2 :: .inBlock 2 :: K) ⟨[(1, x1), (5, x5), (6, x6), (7, x7), (47, x47), (48, x48)], 93, m⟩
noncomputable def r12 : Code := findReg b 12
noncomputable def i3 : Code := findCond b 3
noncomputable def i3t : Code := thenOf i3
noncomputable def i3e : Code := elseOf i3
noncomputable def k3 : Code := findBlk b 3
noncomputable def r13 : Code := findReg b 13
noncomputable def r14 : Code := findReg b 14
noncomputable def r15 : Code := findReg b 15
noncomputable def k4 : Code := findBlk b 4
noncomputable def l4 : Code := loopOf k4
noncomputable def L4 (x1 x5 x6 x7 x8 x9 x47 x48 x52 x53 x54 : AV) (m : Mem) (K : List Item) : Option Res := den prog ann 23 (.code l4 :: .inLoop l4 :: .inBlock 4 :: K) ⟨[(1, x1), (5, x5), (6, x6), (7, x7), (8, x8), (9, x9), (47, x47), (48, x48), (52, x52), (53, x53), (54, x54)], 93, m⟩
noncomputable def r16 : Code := findReg b 16
noncomputable def i4 : Code := findCond b 4
noncomputable def i4t : Code := thenOf i4
noncomputable def i4e : Code := elseOf i4
noncomputable def k5 : Code := findBlk b 5
noncomputable def r17 : Code := findReg b 17
noncomputable def r18 : Code := findReg b 18
noncomputable def i5 : Code := findCond b 5
noncomputable def i5t : Code := thenOf i5
noncomputable def i5e : Code := elseOf i5
noncomputable def r19 : Code := findReg b 19
noncomputable def r20 : Code := findReg b 20
noncomputable def r21 : Code := findReg b 21
noncomputable def r22 : Code := findReg b 22
noncomputable def i6 : Code := findCond b 6
noncomputable def i6t : Code := thenOf i6
noncomputable def i6e : Code := elseOf i6
noncomputable def r23 : Code := findReg b 23
noncomputable def r24 : Code := findReg b 24
noncomputable def r25 : Code := findReg b 25
noncomputable def r7 : Code := findReg b 7
noncomputable def r26 : Code := findReg b 26
theorem b_eq (K : List Item) (s : St) : den prog ann 23 (.code b :: K) s = den prog ann 23 (.code r0 :: .code r1 :: .code i0 :: .code r3 :: .code r4 :: .code r5 :: .code k0 :: .code r26 :: .code .ret :: K) s := den_flat hf (l := [r0, r1, i0, r3, r4, r5, k0, r26, .ret]) (by kernel_rfl) K s
theorem r0_eq (K : List Item) (s : St) : den prog ann 23 (.code r0 :: K) s = mreg prog ann 23 none [] none [] [
    ⟨some 1, none, .v fun s => frozenPtr (s.get 0)⟩,
    ⟨some 2, none, .v fun s => some (.str [])⟩,
    ⟨some 3, none, .v fun s => some (.int .i64 0)⟩] K s := (den_reg hf _ K s).trans (by kernel_rfl)
theorem r1_eq (K : List Item) (s : St) : den prog ann 23 (.code r1 :: K) s = mreg prog ann 23 none [] none [] [
    ⟨some 14, none, .v fun s => loadF true 2 (s.get 1)⟩,
    ⟨some 15, none, .c 0 (fun s => (.fn 55 [] [])) fun s => [(s.get 14)]⟩,
    ⟨some 16, none, .v fun s => unA .not (s.get 15)⟩] K s := (den_reg hf _ K s).trans (by kernel_rfl)
theorem i0_eq (K : List Item) (s : St) : den prog ann 23 (.code i0 :: K) s = ifV prog ann 23 16 i0t i0e K s (s.get 16) := den_if hf (by kernel_rfl) K s
theorem i0t_eq (K : List Item) (s : St) : den prog ann 23 (.code i0t :: K) s = den prog ann 23 (.code r2 :: .code .ret :: K) s := den_flat hf (l := [r2, .ret]) (by kernel_rfl) K s
theorem r2_eq (K : List Item) (s : St) : den prog ann 23 (.code r2 :: K) s = mreg prog ann 23 none [] none [] [
    ⟨some 2, none, .v fun s => some (.str [])⟩,
    ⟨some 3, none, .v fun s => some (.int .i64 1)⟩] K s := (den_reg hf _ K s).trans (by kernel_rfl)
theorem i0e_eq (K : List Item) (s : St) : den prog ann 23 (.code i0e :: K) s = den prog ann 23 (K) s := den_flat hf (l := []) (by kernel_rfl) K s
theorem r3_eq (K : List Item) (s : St) : den prog ann 23 (.code r3 :: K) s = mreg prog ann 23 none [] none [] [
    ⟨some 17, none, .v fun s => fieldA 0 (s.get 1)⟩,
    ⟨some 18, none, .v fun s => loadF false 1 (s.get 17)⟩,
    ⟨some 19, none, .v fun s => lenSl (s.get 18)⟩,
    ⟨some 20, none, .v fun s => binA prog .shl 3 (.int .i64 1) (s.get 19)⟩,
    ⟨some 21, none, .v fun s => binA prog .sub 3 (s.get 20) (.int .i64 1)⟩,
    ⟨some 4, none, .v fun s => some (s.get 21)⟩] K s := (den_reg hf _ K s).trans (by kernel_rfl)
theorem r4_eq (K : List Item) (s : St) : den prog ann 23 (.code r4 :: K) s = mreg prog ann 23 none [] none [] [
    ⟨some 22, none, .w false none fun s => some (.map s.m.nx, s.m.new (.map 0 [] []))⟩,
    ⟨some 23, none, .v fun s => some (s.get 4)⟩,
    ⟨none, none, .w false none fun s => updM prog s.m 3 (s.get 22) (s.get 23) (.str [])⟩,
    ⟨some 24, none, .v fun s => some (s.get 22)⟩,
    ⟨some 5, none, .v fun s => some (s.get 24)⟩] K s := (den_reg hf _ K s).trans (by kernel_rfl)
theorem r5_eq (K : List Item) (s : St) : den prog ann 23 (.code r5 :: K) s = mreg prog ann 23 none [] none [] [
    ⟨some 25, none, .v fun s => some (s.get 4)⟩,
    ⟨some 26, none, .w false none fun s => bslM s.m 1 (bslA 1 1 [.int .i64 0] [(0, (s.get 25))])⟩,
    ⟨some 6, none, .v fun s => some (s.get 26)⟩] K s := (den_reg hf _ K s).trans (by kernel_rfl)
theorem k0_eq (K : List Item) (t : List (Nat × AV)) (m : Mem) : den prog ann 23 (.code k0 :: K) ⟨t, 93, m⟩ = L0 (get t 1) (get t 5) (get t 6) m K := den_loop_enter hf (b := l0) (id := 6) (l := [1, 5, 6]) (by kernel_rfl) (by kernel_rfl) (by kernel_rfl) K _
theorem l0_eq (K : List Item) (t : List (Nat × AV)) (m : Mem) : den prog ann 23 (.inLoop l0 :: .inBlock 0 :: K) ⟨t, 93, m⟩ = L0 (get t 1) (get t 5) (get t 6) m K := den_loop_again hf (id := 6) (l := [1, 5, 6]) (by kernel_rfl) (by kernel_rfl) (.inBlock 0 :: K) _
theorem L0_eq (x1 x5 x6 : AV) (m : Mem) (K : List Item) : L0 x1 x5 x6 m K = den prog ann 23 (.code r6 :: .code i1 :: .code k1 :: .code r7 :: .inLoop l0 :: .inBlock 0 :: K) ⟨[(1, x1), (5, x5), (6, x6)], 93, m⟩ := den_flat hf (l := [r6, i1, k1, r7]) (by kernel_rfl) _ _
theorem r6_eq (K : List Item) (s : St) : den prog ann 23 (.code r6 :: K) s = mreg prog ann 23 (some [1, 5, 6]) [] none [] [
    ⟨some 27, none, .v fun s => some (s.get 6)⟩,
    ⟨some 28, none, .v fun s => lenSl (s.get 27)⟩,
    ⟨some 29, none, .v fun s => binA prog .gtr 3 (s.get 28) (.int .i64 0)⟩] K s := (den_reg hf _ K s).trans (by kernel_rfl)
theorem i1_eq (K : List Item) (s : St) : den prog ann 23 (.code i1 :: K) s = ifV prog ann 23 29 i1t i1e K s (s.get 29) := den_if hf (by kernel_rfl) K s
theorem i1t_eq (K : List Item) (s : St) : den prog ann 23 (.code i1t :: K) s = den prog ann 23 (K) s := den_flat hf (l := []) (by kernel_rfl) K s
theorem i1e_eq (K : List Item) (s : St) : den prog ann 23 (.code i1e :: K) s = den prog ann 23 (.code (.exit 0) :: K) s := den_flat hf (l := [(.exit 0)]) (by kernel_rfl) K s
theorem k1_eq (K : List Item) (s : St) : den prog ann 23 (.code k1 :: K) s = den prog ann 23 (.code r8 :: .code r9 :: .code i2 :: .code r11 :: .code k2 :: .inBlock 1 :: K) s := den_blk hf (b := blkOf k1) (l := [r8, r9, i2, r11, k2]) (by kernel_rfl) (by kernel_rfl) K s
theorem r8_eq (K : List Item) (s : St) : den prog ann 23 (.code r8 :: K) s = mreg prog ann 23 none [] none [] [
    ⟨some 32, none, .v fun s => some (s.get 6)⟩,
    ⟨some 33, none, .v fun s => idxSl 1 (s.get 32) (.int .i64 0)⟩,
    ⟨some 34, none, .v fun s => loadA false 1 s.m (s.get 33)⟩,
    ⟨some 7, none, .v fun s => some (s.get 34)⟩] K s := (den_reg hf _ K s).trans (by kernel_rfl)
theorem r9_eq (K : List Item) (s : St) : den prog ann 23 (.code r9 :: K) s = mreg prog ann 23 none [] none [] [
    ⟨some 35, none, .v fun s => some (s.get 7)⟩,
    ⟨some 36, none, .v fun s => some (s.get 7)⟩,
    ⟨some 37, none, .v fun s => binA prog .sub 3 (s.get 36) (.int .i64 1)⟩,
    ⟨some 38, none, .v fun s => binA prog .and 3 (s.get 35) (s.get 37)⟩,
    ⟨some 39, none, .v fun s => binA prog .eql 3 (s.get 38) (.int .i64 0)⟩] K s := (den_reg hf _ K s).trans (by kernel_rfl)
theorem i2_eq (K : List Item) (s : St) : den prog ann 23 (.code i2 :: K) s = ifV prog ann 23 39 i2t i2e K s (s.get 39) := den_if hf (by kernel_rfl) K s
theorem i2t_eq (K : List Item) (s : St) : den prog ann 23 (.code i2t :: K) s = den prog ann 23 (.code r10 :: .code .ret :: K) s := den_flat hf (l := [r10, .ret]) (by kernel_rfl) K s
theorem r10_eq (K : List Item) (s : St) : den prog ann 23 (.code r10 :: K) s = mreg prog ann 23 none [] none [] [
    ⟨some 40, none, .v fun s => some (s.get 5)⟩,
    ⟨some 41, none, .v fun s => some (s.get 7)⟩,
    ⟨some 42, none, .v fun s => lookP prog s.m 3 (.str []) (s.get 40) (s.get 41) false⟩,
    ⟨some 2, none, .v fun s => some (s.get 42)⟩,
    ⟨some 3, none, .v fun s => some (.int .i64 0)⟩] K s := (den_reg hf _ K s).trans (by kernel_rfl)
theorem i2e_eq (K : List Item) (s : St) : den prog ann 23 (.code i2e :: K) s = den prog ann 23 (K) s := den_flat hf (l := []) (by kernel_rfl) K s
theorem r11_eq (K : List Item) (s : St) : den prog ann 23 (.code r11 :: K) s = mreg prog ann 23 none [] none [] [
    ⟨some 43, none, .v fun s => fieldA 0 (s.get 1)⟩,
    ⟨some 44, none, .v fun s => loadF false 1 (s.get 43)⟩,
    ⟨some 45, none, .v fun s => idxSl 1 (s.get 44) (.int .i64 0)⟩,
    ⟨some 46, none, .v fun s => loadF false 1 (s.get 45)⟩,
    ⟨some 47, none, .v fun s => lenSl (s.get 46)⟩,
    ⟨some 48, none, .v fun s => some (.int .i64 0)⟩] K s := (den_reg hf _ K s).trans (by kernel_rfl)
theorem k2_eq (K : List Item) (t : List (Nat × AV)) (m : Mem) : den prog ann 23 (.code k2 :: K) ⟨t, 93, m⟩ = L2 (get t 1) (get t 5) (get t 6) (get t 7) (get t 47) (get t 48) m K := den_loop_enter hf (b := l2) (id := 12) (l := [1, 5, 6, 7, 47, 48]) (by kernel_rfl) (by kernel_rfl) (by kernel_rfl) K _
theorem l2_eq (K : List Item) (t : List (Nat × AV)) (m : Mem) : den prog ann 23 (.inLoop l2 :: .inBlock 2 :: K) ⟨t, 93, m⟩ = L2 (get t 1) (get t 5) (get t 6) (get t 7) (get t 47) (get t 48) m K := den_loop_again hf (id := 12) (l := [1, 5, 6, 7, 47, 48]) (by kernel_rfl) (by kernel_rfl) (.inBlock 2 :: K) _
theorem L2_eq (x1 x5 x6 x7 x47 x48 : AV) (m : Mem) (K : List Item) : L2 x1 x5 x6 x7 x47 x48 m K = den prog ann 23 (.code r12 :: .code i3 :: .code k3 :: .code r25 :: .inLoop l2 :: .inBlock 2 :: K) ⟨[(1, x1), (5, x5), (6, x6), (7, x7), (47, x47), (48, x48)], 93, m⟩ := den_flat hf (l := [r12, i3, k3, r25]) (by kernel_rfl) _ _
theorem r12_eq (K : List Item) (s : St) : den prog ann 23 (.code r12 :: K) s = mreg prog ann 23 (some [1, 5, 6, 7, 47, 48]) [] none [] [
    ⟨some 49, none, .v fun s => binA prog .lss 3 (s.get 48) (s.get 47)⟩] K s := (den_reg hf _ K s).trans (by kernel_rfl)
theorem i3_eq (K : List Item) (s : St) : den prog ann 23 (.code i3 :: K) s = ifV prog ann 23 49 i3t i3e K s (s.get 49) := den_if hf (by kernel_rfl) K s
theorem i3t_eq (K : List Item) (s : St) : den prog ann 23 (.code i3t :: K) s = den prog ann 23 (K) s := den_flat hf (l := []) (by kernel_rfl) K s
theorem i3e_eq (K : List Item) (s : St) : den prog ann 23 (.code i3e :: K) s = den prog ann 23 (.code (.exit 2) :: K) s := den_flat hf (l := [(.exit 2)]) (by kernel_rfl) K s
theorem k3_eq (K : List Item) (s : St) : den prog ann 23 (.code k3 :: K) s = den prog ann 23 (.code r13 :: .code r14 :: .code r15 :: .code k4 :: .code r21 :: .code r22 :: .code i6 :: .inBlock 3 :: K) s := den_blk hf (b := blkOf k3) (l := [r13, r14, r15, k4, r21, r22, i6]) (by kernel_rfl) (by kernel_rfl) K s
theorem r13_eq (K : List Item) (s : St) : den prog ann 23 (.code r13 :: K) s = mreg prog ann 23 none [] none [] [
    ⟨some 50, none, .v fun s => some (s.get 48)⟩,
    ⟨some 8, none, .v fun s => some (s.get 50)⟩] K s := (den_reg hf _ K s).trans (by kernel_rfl)
theorem r14_eq (K : List Item) (s : St) : den prog ann 23 (.code r14 :: K) s = mreg prog ann 23 none [] none [] [
    ⟨some 9, none, .v fun s => some (.int .i64 0)⟩] K s := (den_reg hf _ K s).trans (by kernel_rfl)
theorem r15_eq (K : List Item) (s : St) : den prog ann 23 (.code r15 :: K) s = mreg prog ann 23 none [] none [] [
    ⟨some 51, none, .v fun s => fieldA 0 (s.get 1)⟩,
    ⟨some 52, none, .v fun s => loadF false 1 (s.get 51)⟩,
    ⟨some 53, none, .v fun s => lenSl (s.get 52)⟩,
    ⟨some 54, none, .v fun s => some (.int .i64 0)⟩] K s := (den_reg hf _ K s).trans (by kernel_rfl)
theorem k4_eq (K : List Item) (t : List (Nat × AV)) (m : Mem) : den prog ann 23 (.code k4 :: K) ⟨t, 93, m⟩ = L4 (get t 1) (get t 5) (get t 6) (get t 7) (get t 8) (get t 9) (get t 47) (get t 48) (get t 52) (get t 53) (get t 54) m K := den_loop_enter hf (b := l4) (id := 16) (l := [1, 5, 6, 7, 8, 9, 47, 48, 52, 53, 54]) (by kernel_rfl) (by kernel_rfl) (by kernel_rfl) K _
theorem l4_eq (K : List Item) (t : List (Nat × AV)) (m : Mem) : den prog ann 23 (.inLoop l4 :: .inBlock 4 :: K) ⟨t, 93, m⟩ = L4 (get t 1) (get t 5) (get t 6) (get t 7) (get t 8) (get t 9) (get t 47) (get t 48) (get t 52) (get t 53) (get t 54) m K := den_loop_again hf (id := 16) (l := [1, 5, 6, 7, 8, 9, 47, 48, 52, 53, 54]) (by kernel_rfl) (by kernel_rfl) (.inBlock 4 :: K) _
theorem L4_eq (x1 x5 x6 x7 x8 x9 x47 x48 x52 x53 x54 : AV) (m : Mem) (K : List Item) : L4 x1 x5 x6 x7 x8 x9 x47 x48 x52 x53 x54 m K = den prog ann 23 (.code r16 :: .code i4 :: .code k5 :: .code r20 :: .inLoop l4 :: .inBlock 4 :: K) ⟨[(1, x1), (5, x5), (6, x6), (7, x7), (8, x8), (9, x9), (47, x47), (48, x48), (52, x52), (53, x53), (54, x54)], 93, m⟩ := den_flat hf (l := [r16, i4, k5, r20]) (by kernel_rfl) _ _
theorem r16_eq (K : List Item) (s : St) : den prog ann 23 (.code r16 :: K) s = mreg prog ann 23 (some [1, 5, 6, 7, 8, 9, 47, 48, 52, 53, 54]) [] none [] [
    ⟨some 55, none, .v fun s => binA prog .lss 3 (s.get 54) (s.get 53)⟩] K s := (den_reg hf _ K s).trans (by kernel_rfl)
theorem i4_eq (K : List Item) (s : St) : den prog ann 23 (.code i4 :: K) s = ifV prog ann 23 55 i4t i4e K s (s.get 55) := den_if hf (by kernel_rfl) K s
theorem i4t_eq (K : List Item) (s : St) : den prog ann 23 (.code i4t :: K) s = den prog ann 23 (K) s := den_flat hf (l := []) (by kernel_rfl) K s
theorem i4e_eq (K : List Item) (s : St) : den prog ann 23 (.code i4e :: K) s = den prog ann 23 (.code (.exit 4) :: K) s := den_flat hf (l := [(.exit 4)]) (by kernel_rfl) K s
theorem k5_eq (K : List Item) (s : St) : den prog ann 23 (.code k5 :: K) s = den prog ann 23 (.code r17 :: .code r18 :: .code i5 :: .inBlock 5 :: K) s := den_blk hf (b := blkOf k5) (l := [r17, r18, i5]) (by kernel_rfl) (by kernel_rfl) K s
theorem r17_eq (K : List Item) (s : St) : den prog ann 23 (.code r17 :: K) s = mreg prog ann 23 none [] none [] [
    ⟨some 56, none, .v fun s => some (s.get 54)⟩,
    ⟨some 57, none, .v fun s => idxSl 1 (s.get 52) (s.get 54)⟩,
    ⟨some 58, none, .v fun s => loadF false 1 (s.get 57)⟩,
    ⟨some 10, none, .v fun s => some (s.get 56)⟩,
    ⟨some 11, none, .v fun s => some (s.get 58)⟩] K s := (den_reg hf _ K s).trans (by kernel_rfl)
theorem r18_eq (K : List Item) (s : St) : den prog ann 23 (.code r18 :: K) s = mreg prog ann 23 none [] none [] [
    ⟨some 59, none, .v fun s => some (s.get 7)⟩,
    ⟨some 60, none, .v fun s => some (s.get 10)⟩,
    ⟨some 61, none, .v fun s => binA prog .shr 3 (s.get 59) (s.get 60)⟩,
    ⟨some 62, none, .v fun s => binA prog .and 3 (s.get 61) (.int .i64 1)⟩,
    ⟨some 63, none, .v fun s => binA prog .eql 3 (s.get 62) (.int .i64 1)⟩] K s := (den_reg hf _ K s).trans (by kernel_rfl)
theorem i5_eq (K : List Item) (s : St) : den prog ann 23 (.code i5 :: K) s = ifV prog ann 23 63 i5t i5e K s (s.get 63) := den_if hf (by kernel_rfl) K s
theorem i5t_eq (K : List Item) (s : St) : den prog ann 23 (.code i5t :: K) s = den prog ann 23 (.code r19 :: K) s := den_flat hf (l := [r19]) (by kernel_rfl) K s
theorem r19_eq (K : List Item) (s : St) : den prog ann 23 (.code r19 :: K) s = mreg prog ann 23 none [] none [] [
    ⟨some 64, none, .v fun s => some (s.get 9)⟩,
    ⟨some 65, none, .v fun s => some (s.get 11)⟩,
    ⟨some 66, none, .v fun s => some (s.get 8)⟩,
    ⟨some 67, none, .v fun s => idxSl 1 (s.get 65) (s.get 66)⟩,
    ⟨some 68, none, .v fun s => loadF false 1 (s.get 67)⟩,
    ⟨some 69, none, .v fun s => binA prog .shl 3 (.int .i64 1) (s.get 68)⟩,
    ⟨some 70, none, .v fun s => binA prog .or 3 (s.get 64) (s.get 69)⟩,
    ⟨some 9, none, .v fun s => some (s.get 70)⟩] K s := (den_reg hf _ K s).trans (by kernel_rfl)
theorem i5e_eq (K : List Item) (s : St) : den prog ann 23 (.code i5e :: K) s = den prog ann 23 (K) s := den_flat hf (l := []) (by kernel_rfl) K s
theorem r20_eq (K : List Item) (s : St) : den prog ann 23 (.code r20 :: K) s = mreg prog ann 23 (some [1, 5, 6, 7, 8, 9, 47, 48, 52, 53, 54]) [] none [] [
    ⟨some 71, none, .v fun s => binA prog .add 3 (s.get 54) (.int .i64 1)⟩,
    ⟨some 54, none, .v fun s => some (s.get 71)⟩] K s := (den_reg hf _ K s).trans (by kernel_rfl)
theorem r21_eq (K : List Item) (s : St) : den prog ann 23 (.code r21 :: K) s = mreg prog ann 23 (some [1, 5, 6, 7, 8, 9, 47, 48]) [] none [] [
    ⟨some 73, none, .v fun s => some (s.get 5)⟩,
    ⟨some 74, none, .v fun s => some (s.get 9)⟩,
    ⟨some 75, none, .v fun s => lookP prog s.m 3 (.str []) (s.get 73) (s.get 74) true⟩,
    ⟨some 72, none, .v fun s => some (s.get 75)⟩,
    ⟨some 76, none, .v fun s => extA (s.get 72) 0⟩,
    ⟨some 77, none, .v fun s => extA (s.get 72) 1⟩,
    ⟨some 12, none, .v fun s => some (s.get 76)⟩,
    ⟨some 13, none, .v fun s => some (s.get 77)⟩] K s := (den_reg hf _ K s).trans (by kernel_rfl)
theorem r22_eq (K : List Item) (s : St) : den prog ann 23 (.code r22 :: K) s = mreg prog ann 23 none [] none [] [
    ⟨some 78, none, .v fun s => some (s.get 13)⟩,
    ⟨some 79, none, .v fun s => unA .not (s.get 78)⟩] K s := (den_reg hf _ K s).trans (by kernel_rfl)
theorem i6_eq (K : List Item) (s : St) : den prog ann 23 (.code i6 :: K) s = ifV prog ann 23 79 i6t i6e K s (s.get 79) := den_if hf (by kernel_rfl) K s
theorem i6t_eq (K : List Item) (s : St) : den prog ann 23 (.code i6t :: K) s = den prog ann 23 (.code r23 :: .code r24 :: K) s := den_flat hf (l := [r23, r24]) (by kernel_rfl) K s
theorem r23_draw : drawOk (fun g => (ann g).pure) (modeOf (ann 23) (idOf r23)) (frzOf (ann 23) (idOf r23)) (opsOf r23) = true := drawOk_of (an := [0, 0, 0, 0, 12, 0, 32, 124, 255]) (by kernel_rfl) (by kernel_rfl)
theorem r23_eq (K : List Item) (s : St) : den prog ann 23 (.code r23 :: K) s = mreg prog ann 23 none [] (some 9) [] [
    ⟨some 80, none, .v fun s => some (s.get 5)⟩,
    ⟨some 81, none, .v fun s => some (s.get 9)⟩,
    ⟨some 82, none, .v fun s => some (s.get 5)⟩,
    ⟨some 83, none, .v fun s => some (s.get 7)⟩,
    ⟨some 84, none, .v fun s => lookP prog s.m 3 (.str []) (s.get 82) (s.get 83) false⟩,
    ⟨some 85, none, .v fun s => some (s.get 8)⟩,
    ⟨some 86, none, .c 0 (fun s => (.fn 59 [] [])) fun s => [(s.get 85)]⟩,
    ⟨some 87, none, .v fun s => binA prog .add 9 (s.get 84) (s.get 86)⟩,
    ⟨none, none, .w false (some 8) fun s => updM prog s.m 3 (s.get 80) (s.get 81) (s.get 87)⟩] K s := (den_regD hf r23_draw K s).trans (by kernel_rfl)
theorem r24_eq (K : List Item) (s : St) : den prog ann 23 (.code r24 :: K) s = mreg prog ann 23 none [] none [] [
    ⟨some 88, none, .v fun s => some (s.get 6)⟩,
    ⟨some 89, none, .v fun s => some (s.get 9)⟩,
    ⟨some 90, none, .v fun s => bslF 1 (bslA 1 1 [.int .i64 0] [(0, (s.get 89))])⟩,
    ⟨some 91, none, .w false none fun s => appendA 1 8 s.m (s.get 88) (s.get 90)⟩,
    ⟨some 6, none, .v fun s => some (s.get 91)⟩] K s := (den_reg hf _ K s).trans (by kernel_rfl)
theorem i6e_eq (K : List Item) (s : St) : den prog ann 23 (.code i6e :: K) s = den prog ann 23 (K) s := den_flat hf (l := []) (by kernel_rfl) K s
theorem r25_eq (K : List Item) (s : St) : den prog ann 23 (.code r25 :: K) s = mreg prog ann 23 (some [1, 5, 6, 7, 47, 48]) [] none [] [
    ⟨some 92, none, .v fun s => binA prog .add 3 (s.get 48) (.int .i64 1)⟩,
    ⟨some 48, none, .v fun s => some (s.get 92)⟩] K s := (den_reg hf _ K s).trans (by kernel_rfl)
theorem r7_eq (K : List Item) (s : St) : den prog ann 23 (.code r7 :: K) s = mreg prog ann 23 (some [1, 5, 6]) [] none [] [
    ⟨some 30, none, .v fun s => some (s.get 6)⟩,
    ⟨some 31, none, .v fun s => sliceSl 1 (s.get 30) (some (.int .i64 1)) none⟩,
    ⟨some 6, none, .v fun s => some (s.get 31)⟩] K s := (den_reg hf _ K s).trans (by kernel_rfl)
theorem r26_eq (K : List Item) (s : St) : den prog ann 23 (.code r26 :: K) s = mreg prog ann 23 (some []) [] none [] [
    ⟨some 2, none, .v fun s => some (.str [])⟩,
    ⟨some 3, none, .v fun s => some (.int .i64 5)⟩] K s := (den_reg hf _ K s).trans (by kernel_rfl)
theorem ret_eq (K : List Item) (s : St) : den prog ann 23 (.code .ret :: K) s = finM true [fun s => some (s.get 2), fun s => some (s.get 3)] s := (den_ret hf K s).trans (by kernel_rfl)
theorem nil_eq (s : St) : den prog ann 23 [] s = finM true [fun s => some (s.get 2), fun s => some (s.get 3)] s := (den_nil hf s).trans (by kernel_rfl)
theorem inBlock_eq (id : Nat) (K : List Item) (s : St) : den prog ann 23 (.inBlock id :: K) s = den prog ann 23 K s := den_inBlock hf id K s
theorem exit_eq (id : Nat) (K : List Item) (s : St) : den prog ann 23 (.code (.exit id) :: K) s = exitV prog ann 23 (exitTo id K) s := den_exitV hf id K s
theorem call_eq (v0 : AV) (m : Mem) (h : closedL [v0] = true) : denC prog ann 23 [v0] m = (den prog ann 23 [.code b] ⟨[(0, v0)], 93, Mem.empty⟩).bind fun r => some (r.1, m) := (denC_pure hf (b := b) (by kernel_rfl) (by kernel_rfl) (by kernel_rfl) h m).trans (by kernel_rfl)
theorem pure_eq : (ann 23).pure = true := by kernel_rfl
attribute [simp] b_eq r0_eq r1_eq i0_eq i0t_eq r2_eq i0e_eq r3_eq r4_eq r5_eq k0_eq l0_eq r6_eq i1_eq i1t_eq i1e_eq k1_eq r8_eq r9_eq i2_eq i2t_eq r10_eq i2e_eq r11_eq k2_eq l2_eq r12_eq i3_eq i3t_eq i3e_eq k3_eq r13_eq r14_eq r15_eq k4_eq l4_eq r16_eq i4_eq i4t_eq i4e_eq k5_eq r17_eq r18_eq i5_eq i5t_eq r19_eq i5e_eq r20_eq r21_eq r22_eq i6_eq i6t_eq r23_eq r24_eq i6e_eq r25_eq r7_eq r26_eq ret_eq nil_eq inBlock_eq exit_eq pure_eq
end brand_Reset

namespace r07_Reset
/-- pommel/pommelref07.Reset -/
noncomputable def b : Code := (Try.f27.body).getD .skip
theorem hf : prog.funcs[27]? = some Try.f27 := by kernel_rfl
noncomputable def r0 : Code := findReg b 0
noncomputable def r1 : Code := findReg b 1
noncomputable def r2 : Code := findReg b 2
noncomputable def r3 : Code := findReg b 3
noncomputable def k0 : Code := findBlk b 0
noncomputable def l0 : Code := loopOf k0
noncomputable def L0 (x1 x5 x6 x7 x8 : AV) (m : Mem) (K : List Item) : Option Res := den prog ann 27 (.code l0 :: .inLoop l0 :: .inBlock 0 :: K) ⟨[(1, x1), (5, x5), (6, x6), (7, x7), (8, x8)], 99, m⟩
noncomputable def r4 : Code := findReg b 4
noncomputable def i0 : Code := findCond b 0
noncomputable def i0t : Code := thenOf i0
noncomputable def i0e : Code := elseOf i0
noncomputable def k1 : Code := findBlk b 1
noncomputable def r6 : Code := findReg b 6
noncomputable def i1 : Code := findCond b 1
noncomputable def i1t : Code := thenOf i1
noncomputable def i1e : Code := elseOf i1
noncomputable def r7 : Code := findReg b 7
noncomputable def r8 : Code := findReg b 8
noncomputable def k2 : Code := findBlk b 2
noncomputable def l2 : Code := loopOf k2
noncomputable def L2 (x1 x5 x6 x7 x8 x9 : AV) (m : Mem) (K : List Item) : Option Res := den prog ann 27 (.code l2 :: .inLoop l2 :: .inBlock 2 :: K) ⟨[(1, x1), (5, x5), (6, x6), (7, x7), (8, x8), (9, x9)], 99, m⟩
noncomputable def r9 : Code := findReg b 9
noncomputable def i2 : Code := findCond b 2
noncomputable def i2t : Code := thenOf i2
noncomputable def i2e : Code := elseOf i2
noncomputable def k3 : Code := findBlk b 3
noncomputable def r11 : Code := findReg b 11
noncomputable def r12 : Code := findReg b 12
noncomputable def k4 : Code := findBlk b 4
noncomputable def l4 : Code := loopOf k4
noncomputable def L4 (x1 x5 x6 x7 x8 x9 x10 x11 : AV) (m : Mem) (K : List Item) : Option Res := den prog ann 27 (.code l4 :: .inLoop l4 :: .inBlock 4 :: K) ⟨[(1, x1), (5, x5), (6, x6), (7, x7), (8, x8), (9, x9), (10, x10), (11, x11)], 99, m⟩
noncomputable def r13 : Code := findReg b 13
noncomputable def i3 : Code := findCond b 3
noncomputable def i3t : Code := thenOf i3
noncomputable def i3e : Code := elseOf i3
noncomputable def k5 : Code := findBlk b 5
noncomputable def r15 : Code := findReg b 15
noncomputable def i4 : Code := findCond b 4
noncomputable def i4t : Code := thenOf i4
noncomputable def i4e : Code := elseOf i4
noncomputable def r16 : Code := findReg b 16
noncomputable def r14 : Code := findReg b 14
noncomputable def r17 : Code := findReg b 17
noncomputable def i5 : Code := findCond b 5
noncomputable def i5t : Code := thenOf i5
noncomputable def i5e : Code := elseOf i5
noncomputable def r18 : Code := findReg b 18
noncomputable def r19 : Code := findReg b 19
noncomputable def r10 : Code := findReg b 10
noncomputable def r5 : Code := findReg b 5
noncomputable def r20 : Code := findReg b 20
theorem b_eq (K : List Item) (s : St) : den prog ann 27 (.code b :: K) s = den prog ann 27 (.code r0 :: .code r1 :: .code r2 :: .code r3 :: .code k0 :: .code r20 :: .code .ret :: K) s := den_flat hf (l := [r0, r1, r2, r3, k0, r20, .ret]) (by kernel_rfl) K s
theorem r0_eq (K : List Item) (s : St) : den prog ann 27 (.code r0 :: K) s = mreg prog ann 27 none [] none [] [
    ⟨some 1, none, .v fun s => frozenPtr (s.get 0)⟩,
    ⟨some 2, none, .v fun s => some (.str [])⟩,
    ⟨some 3, none, .v fun s => some (.bool false)⟩] K s := (den_reg hf _ K s).trans (by kernel_rfl)
theorem r1_eq (K : List Item) (s : St) : den prog ann 27 (.code r1 :: K) s = mreg prog ann 27 none [] none [] [
    ⟨some 12, none, .v fun s => fieldA 0 (s.get 1)⟩,
    ⟨some 13, none, .v fun s => loadF false 1 (s.get 12)⟩,
    ⟨some 14, none, .v fun s => lenSl (s.get 13)⟩,
    ⟨some 15, none, .v fun s => binA prog .shl 3 (.int .i64 1) (s.get 14)⟩,
    ⟨some 16, none, .v fun s => binA prog .sub 3 (s.get 15) (.int .i64 1)⟩,
    ⟨some 4, none, .v fun s => some (s.get 16)⟩] K s := (den_reg hf _ K s).trans (by kernel_rfl)
theorem r2_eq (K : List Item) (s : St) : den prog ann 27 (.code r2 :: K) s = mreg prog ann 27 none [] none [] [
    ⟨some 17, none, .v fun s => some (s.get 4)⟩,
    ⟨some 18, none, .w false none fun s => bslM s.m 1 (bslA 1 1 [.int .i64 0] [(0, (s.get 17))])⟩,
    ⟨some 19, none, .w false none fun s => bslM s.m 1 (bslA 1 1 [.str []] [(0, (.str []))])⟩,
    ⟨some 20, none, .w false none fun s => some (.map s.m.nx, s.m.new (.map 0 [] []))⟩,
    ⟨some 21, none, .v fun s => some (s.get 4)⟩,
    ⟨none, none, .w false none fun s => updM prog s.m 3 (s.get 20) (s.get 21) (.bool true)⟩,
    ⟨some 22, none, .v fun s => some (s.get 20)⟩,
    ⟨some 5, none, .v fun s => some (s.get 18)⟩,
    ⟨some 6, none, .v fun s => some (s.get 19)⟩,
    ⟨some 7, none, .v fun s => some (s.get 22)⟩] K s := (den_reg hf _ K s).trans (by kernel_rfl)
theorem r3_eq (K : List Item) (s : St) : den prog ann 27 (.code r3 :: K) s = mreg prog ann 27 none [] none [] [
    ⟨some 8, none, .v fun s => some (.int .i64 0)⟩] K s := (den_reg hf _ K s).trans (by kernel_rfl)
theorem k0_eq (K : List Item) (t : List (Nat × AV)) (m : Mem) : den prog ann 27 (.code k0 :: K) ⟨t, 99, m⟩ = L0 (get t 1) (get t 5) (get t 6) (get t 7) (get t 8) m K := den_loop_enter hf (b := l0) (id := 4) (l := [1, 5, 6, 7, 8]) (by kernel_rfl) (by kernel_rfl) (by kernel_rfl) K _
theorem l0_eq (K : List Item) (t : List (Nat × AV)) (m : Mem) : den prog ann 27 (.inLoop l0 :: .inBlock 0 :: K) ⟨t, 99, m⟩ = L0 (get t 1) (get t 5) (get t 6) (get t 7) (get t 8) m K := den_loop_again hf (id := 4) (l := [1, 5, 6, 7, 8]) (by kernel_rfl) (by kernel_rfl) (.inBlock 0 :: K) _
theorem L0_eq (x1 x5 x6 x7 x8 : AV) (m : Mem) (K : List Item) : L0 x1 x5 x6 x7 x8 m K = den prog ann 27 (.code r4 :: .code i0 :: .code k1 :: .code r5 :: .inLoop l0 :: .inBlock 0 :: K) ⟨[(1, x1), (5, x5), (6, x6), (7, x7), (8, x8)], 99, m⟩ := den_flat hf (l := [r4, i0, k1, r5]) (by kernel_rfl) _ _
theorem r4_eq (K : List Item) (s : St) : den prog ann 27 (.code r4 :: K) s = mreg prog ann 27 (some [1, 5, 6, 7, 8]) [] none [] [
    ⟨some 23, none, .v fun s => some (s.get 8)⟩,
    ⟨some 24, none, .v fun s => some (s.get 5)⟩,
    ⟨some 25, none, .v fun s => lenSl (s.get 24)⟩,
    ⟨some 26, none, .v fun s => binA prog .lss 3 (s.get 23) (s.get 25)⟩] K s := (den_reg hf _ K s).trans (by kernel_rfl)
theorem i0_eq (K : List Item) (s : St) : den prog ann 27 (.code i0 :: K) s = ifV prog ann 27 26 i0t i0e K s (s.get 26) := den_if hf (by kernel_rfl) K s
theorem i0t_eq (K : List Item) (s : St) : den prog ann 27 (.code i0t :: K) s = den prog ann 27 (K) s := den_flat hf (l := []) (by kernel_rfl) K s
theorem i0e_eq (K : List Item) (s : St) : den prog ann 27 (.code i0e :: K) s = den prog ann 27 (.code (.exit 0) :: K) s := den_flat hf (l := [(.exit 0)]) (by kernel_rfl) K s
theorem k1_eq (K : List Item) (s : St) : den prog ann 27 (.code k1 :: K) s = den prog ann 27 (.code r6 :: .code i1 :: .code r8 :: .code k2 :: .inBlock 1 :: K) s := den_blk hf (b := blkOf k1) (l := [r6, i1, r8, k2]) (by kernel_rfl) (by kernel_rfl) K s
theorem r6_draw : drawOk (fun g => (ann g).pure) (modeOf (ann 27) (idOf r6)) (frzOf (ann 27) (idOf r6)) (opsOf r6) = true := drawOk_of (an := [0, 0, 3, 7, 0, 0, 48, 112, 240, 511, 1023]) (by kernel_rfl) (by kernel_rfl)
theorem r6_eq (K : List Item) (s : St) : den prog ann 27 (.code r6 :: K) s = mreg prog ann 27 none [] (some 11) [] [
    ⟨some 29, none, .v fun s => some (s.get 5)⟩,
    ⟨some 30, none, .v fun s => some (s.get 8)⟩,
    ⟨some 31, none, .v fun s => idxSl 1 (s.get 29) (s.get 30)⟩,
    ⟨some 32, none, .v fun s => loadA false 1 s.m (s.get 31)⟩,
    ⟨some 33, none, .v fun s => some (s.get 5)⟩,
    ⟨some 34, none, .v fun s => some (s.get 8)⟩,
    ⟨some 35, none, .v fun s => idxSl 1 (s.get 33) (s.get 34)⟩,
    ⟨some 36, none, .v fun s => loadA false 1 s.m (s.get 35)⟩,
    ⟨some 37, none, .v fun s => binA prog .sub 3 (s.get 36) (.int .i64 1)⟩,
    ⟨some 38, none, .v fun s => binA prog .and 3 (s.get 32) (s.get 37)⟩,
    ⟨some 39, none, .v fun s => binA prog .eql 3 (s.get 38) (.int .i64 0)⟩] K s := (den_regD hf r6_draw K s).trans (by kernel_rfl)
theorem i1_eq (K : List Item) (s : St) : den prog ann 27 (.code i1 :: K) s = ifV prog ann 27 39 i1t i1e K s (s.get 39) := den_if hf (by kernel_rfl) K s
theorem i1t_eq (K : List Item) (s : St) : den prog ann 27 (.code i1t :: K) s = den prog ann 27 (.code r7 :: .code .ret :: K) s := den_flat hf (l := [r7, .ret]) (by kernel_rfl) K s
theorem r7_eq (K : List Item) (s : St) : den prog ann 27 (.code r7 :: K) s = mreg prog ann 27 none [] none [] [
    ⟨some 40, none, .v fun s => some (s.get 6)⟩,
    ⟨some 41, none, .v fun s => some (s.get 8)⟩,
    ⟨some 42, none, .v fun s => idxSl 1 (s.get 40) (s.get 41)⟩,
    ⟨some 43, none, .v fun s => loadA false 1 s.m (s.get 42)⟩,
    ⟨some 2, none, .v fun s => some (s.get 43)⟩,
    ⟨some 3, none, .v fun s => some (.bool true)⟩] K s := (den_reg hf _ K s).trans (by kernel_rfl)
theorem i1e_eq (K : List Item) (s : St) : den prog ann 27 (.code i1e :: K) s = den prog ann 27 (K) s := den_flat hf (l := []) (by kernel_rfl) K s
theorem r8_eq (K : List Item) (s : St) : den prog ann 27 (.code r8 :: K) s = mreg prog ann 27 none [] none [] [
    ⟨some 9, none, .v fun s => some (.int .i64 0)⟩] K s := (den_reg hf _ K s).trans (by kernel_rfl)
theorem k2_eq (K : List Item) (t : List (Nat × AV)) (m : Mem) : den prog ann 27 (.code k2 :: K) ⟨t, 99, m⟩ = L2 (get t 1) (get t 5) (get t 6) (get t 7) (get t 8) (get t 9) m K := den_loop_enter hf (b := l2) (id := 9) (l := [1, 5, 6, 7, 8, 9]) (by kernel_rfl) (by kernel_rfl) (by kernel_rfl) K _
theorem l2_eq (K : List Item) (t : List (Nat × AV)) (m : Mem) : den prog ann 27 (.inLoop l2 :: .inBlock 2 :: K) ⟨t, 99, m⟩ = L2 (get t 1) (get t 5) (get t 6) (get t 7) (get t 8) (get t 9) m K := den_loop_again hf (id := 9) (l := [1, 5, 6, 7, 8, 9]) (by kernel_rfl) (by kernel_rfl) (.inBlock 2 :: K) _
theorem L2_eq (x1 x5 x6 x7 x8 x9 : AV) (m : Mem) (K : List Item) : L2 x1 x5 x6 x7 x8 x9 m K = den prog ann 27 (.code r9 :: .code i2 :: .code k3 :: .code r10 :: .inLoop l2 :: .inBlock 2 :: K) ⟨[(1, x1), (5, x5), (6, x6), (7, x7), (8, x8), (9, x9)], 99, m⟩ := den_flat hf (l := [r9, i2, k3, r10]) (by kernel_rfl) _ _
theorem r9_eq (K : List Item) (s : St) : den prog ann 27 (.code r9 :: K) s = mreg prog ann 27 (some [1, 5, 6, 7, 8, 9]) [] none [] [
    ⟨some 44, none, .v fun s => some (s.get 9)⟩,
    ⟨some 45, none, .v fun s => fieldA 0 (s.get 1)⟩,
    ⟨some 46, none, .v fun s => loadF false 1 (s.get 45)⟩,
    ⟨some 47, none, .v fun s => idxSl 1 (s.get 46) (.int .i64 0)⟩,
    ⟨some 48, none, .v fun s => loadF false 1 (s.get 47)⟩,
    ⟨some 49, none, .v fun s => lenSl (s.get 48)⟩,
    ⟨some 50, none, .v fun s => binA prog .lss 3 (s.get 44) (s.get 49)⟩] K s := (den_reg hf _ K s).trans (by kernel_rfl)
theorem i2_eq (K : List Item) (s : St) : den prog ann 27 (.code i2 :: K) s = ifV prog ann 27 50 i2t i2e K s (s.get 50) := den_if hf (by kernel_rfl) K s
theorem i2t_eq (K : List Item) (s : St) : den prog ann 27 (.code i2t :: K) s = den prog ann 27 (K) s := den_flat hf (l := []) (by kernel_rfl) K s
theorem i2e_eq (K : List Item) (s : St) : den prog ann 27 (.code i2e :: K) s = den prog ann 27 (.code (.exit 2) :: K) s := den_flat hf (l := [(.exit 2)]) (by kernel_rfl) K s
theorem k3_eq (K : List Item) (s : St) : den prog ann 27 (.code k3 :: K) s = den prog ann 27 (.code r11 :: .code r12 :: .code k4 :: .code r17 :: .code i5 :: .inBlock 3 :: K) s := den_blk hf (b := blkOf k3) (l := [r11, r12, k4, r17, i5]) (by kernel_rfl) (by kernel_rfl) K s
theorem r11_eq (K : List Item) (s : St) : den prog ann 27 (.code r11 :: K) s = mreg prog ann 27 none [] none [] [
    ⟨some 10, none, .v fun s => some (.int .i64 0)⟩] K s := (den_reg hf _ K s).trans (by kernel_rfl)
theorem r12_eq (K : List Item) (s : St) : den prog ann 27 (.code r12 :: K) s = mreg prog ann 27 none [] none [] [
    ⟨some 11, none, .v fun s => some (.int .i64 0)⟩] K s := (den_reg hf _ K s).trans (by kernel_rfl)
theorem k4_eq (K : List Item) (t : List (Nat × AV)) (m : Mem) : den prog ann 27 (.code k4 :: K) ⟨t, 99, m⟩ = L4 (get t 1) (get t 5) (get t 6) (get t 7) (get t 8) (get t 9) (get t 10) (get t 11) m K := den_loop_enter hf (b := l4) (id := 13) (l := [1, 5, 6, 7, 8, 9, 10, 11]) (by kernel_rfl) (by kernel_rfl) (by kernel_rfl) K _
theorem l4_eq (K : List Item) (t : List (Nat × AV)) (m : Mem) : den prog ann 27 (.inLoop l4 :: .inBlock 4 :: K) ⟨t, 99, m⟩ = L4 (get t 1) (get t 5) (get t 6) (get t 7) (get t 8) (get t 9) (get t 10) (get t 11) m K := den_loop_again hf (id := 13) (l := [1, 5, 6, 7, 8, 9, 10, 11]) (by kernel_rfl) (by kernel_rfl) (.inBlock 4 :: K) _
theorem L4_eq (x1 x5 x6 x7 x8 x9 x10 x11 : AV) (m : Mem) (K : List Item) : L4 x1 x5 x6 x7 x8 x9 x10 x11 m K = den prog ann 27 (.code r13 :: .code i3 :: .code k5 :: .code r14 :: .inLoop l4 :: .inBlock 4 :: K) ⟨[(1, x1), (5, x5), (6, x6), (7, x7), (8, x8), (9, x9), (10, x10), (11, x11)], 99, m⟩ := den_flat hf (l := [r13, i3, k5, r14]) (by kernel_rfl) _ _
theorem r13_eq (K : List Item) (s : St) : den prog ann 27 (.code r13 :: K) s = mreg prog ann 27 (some [1, 5, 6, 7, 8, 9, 10, 11]) [] none [] [
    ⟨some 53, none, .v fun s => some (s.get 11)⟩,
    ⟨some 54, none, .v fun s => fieldA 0 (s.get 1)⟩,
    ⟨some 55, none, .v fun s => loadF false 1 (s.get 54)⟩,
    ⟨some 56, none, .v fun s => lenSl (s.get 55)⟩,
    ⟨some 57, none, .v fun s => binA prog .lss 3 (s.get 53) (s.get 56)⟩] K s := (den_reg hf _ K s).trans (by kernel_rfl)
theorem i3_eq (K : List Item) (s : St) : den prog ann 27 (.code i3 :: K) s = ifV prog ann 27 57 i3t i3e K s (s.get 57) := den_if hf (by kernel_rfl) K s
theorem i3t_eq (K : List Item) (s : St) : den prog ann 27 (.code i3t :: K) s = den prog ann 27 (K) s := den_flat hf (l := []) (by kernel_rfl) K s
theorem i3e_eq (K : List Item) (s : St) : den prog ann 27 (.code i3e :: K) s = den prog ann 27 (.code (.exit 4) :: K) s := den_flat hf (l := [(.exit 4)]) (by kernel_rfl) K s
theorem k5_eq (K : List Item) (s : St) : den prog ann 27 (.code k5 :: K) s = den prog ann 27 (.code r15 :: .code i4 :: .inBlock 5 :: K) s := den_blk hf (b := blkOf k5) (l := [r15, i4]) (by kernel_rfl) (by kernel_rfl) K s
theorem r15_eq (K : List Item) (s : St) : den prog ann 27 (.code r15 :: K) s = mreg prog ann 27 none [] none [] [
    ⟨some 60, none, .v fun s => some (s.get 5)⟩,
    ⟨some 61, none, .v fun s => some (s.get 8)⟩,
    ⟨some 62, none, .v fun s => idxSl 1 (s.get 60) (s.get 61)⟩,
    ⟨some 63, none, .v fun s => loadA false 1 s.m (s.get 62)⟩,
    ⟨some 64, none, .v fun s => some (s.get 11)⟩,
    ⟨some 65, none, .v fun s => binA prog .shr 3 (s.get 63) (s.get 64)⟩,
    ⟨some 66, none, .v fun s => binA prog .and 3 (s.get 65) (.int .i64 1)⟩,
    ⟨some 67, none, .v fun s => binA prog .eql 3 (s.get 66) (.int .i64 1)⟩] K s := (den_reg hf _ K s).trans (by kernel_rfl)
theorem i4_eq (K : List Item) (s : St) : den prog ann 27 (.code i4 :: K) s = ifV prog ann 27 67 i4t i4e K s (s.get 67) := den_if hf (by kernel_rfl) K s
theorem i4t_eq (K : List Item) (s : St) : den prog ann 27 (.code i4t :: K) s = den prog ann 27 (.code r16 :: K) s := den_flat hf (l := [r16]) (by kernel_rfl) K s
theorem r16_eq (K : List Item) (s : St) : den prog ann 27 (.code r16 :: K) s = mreg prog ann 27 none [] none [] [
    ⟨some 68, none, .v fun s => some (s.get 10)⟩,
    ⟨some 69, none, .v fun s => fieldA 0 (s.get 1)⟩,
    ⟨some 70, none, .v fun s => loadF false 1 (s.get 69)⟩,
    ⟨some 71, none, .v fun s => some (s.get 11)⟩,
    ⟨some 72, none, .v fun s => idxSl 1 (s.get 70) (s.get 71)⟩,
    ⟨some 73, none, .v fun s => loadF false 1 (s.get 72)⟩,
    ⟨some 74, none, .v fun s => some (s.get 9)⟩,
    ⟨some 75, none, .v fun s => idxSl 1 (s.get 73) (s.get 74)⟩,
    ⟨some 76, none, .v fun s => loadF false 1 (s.get 75)⟩,
    ⟨some 77, none, .v fun s => binA prog .shl 3 (.int .i64 1) (s.get 76)⟩,
    ⟨some 78, none, .v fun s => binA prog .or 3 (s.get 68) (s.get 77)⟩,
    ⟨some 10, none, .v fun s => some (s.get 78)⟩] K s := (den_reg hf _ K s).trans (by kernel_rfl)
theorem i4e_eq (K : List Item) (s : St) : den prog ann 27 (.code i4e :: K) s = den prog ann 27 (K) s := den_flat hf (l := []) (by kernel_rfl) K s
theorem r14_eq (K : List Item) (s : St) : den prog ann 27 (.code r14 :: K) s = mreg prog ann 27 (some [1, 5, 6, 7, 8, 9, 10, 11]) [] none [] [
    ⟨some 58, none, .v fun s => some (s.get 11)⟩,
    ⟨some 59, none, .v fun s => binA prog .add 3 (s.get 58) (.int .i64 1)⟩,
    ⟨some 11, none, .v fun s => some (s.get 59)⟩] K s := (den_reg hf _ K s).trans (by kernel_rfl)
theorem r17_eq (K : List Item) (s : St) : den prog ann 27 (.code r17 :: K) s = mreg prog ann 27 (some [1, 5, 6, 7, 8, 9, 10]) [] none [] [
    ⟨some 79, none, .v fun s => some (s.get 7)⟩,
    ⟨some 80, none, .v fun s => some (s.get 10)⟩,
    ⟨some 81, none, .v fun s => lookP prog s.m 3 (.bool false) (s.get 79) (s.get 80) false⟩,
    ⟨some 82, none, .v fun s => unA .not (s.get 81)⟩] K s := (den_reg hf _ K s).trans (by kernel_rfl)
theorem i5_eq (K : List Item) (s : St) : den prog ann 27 (.code i5 :: K) s = ifV prog ann 27 82 i5t i5e K s (s.get 82) := den_if hf (by kernel_rfl) K s
theorem i5t_eq (K : List Item) (s : St) : den prog ann 27 (.code i5t :: K) s = den prog ann 27 (.code r18 :: .code r19 :: K) s := den_flat hf (l := [r18, r19]) (by kernel_rfl) K s
theorem r18_eq (K : List Item) (s : St) : den prog ann 27 (.code r18 :: K) s = mreg prog ann 27 none [] none [] [
    ⟨some 83, none, .v fun s => some (s.get 7)⟩,
    ⟨some 84, none, .v fun s => some (s.get 10)⟩,
    ⟨none, none, .w false none fun s => updM prog s.m 3 (s.get 83) (s.get 84) (.bool true)⟩] K s := (den_reg hf _ K s).trans (by kernel_rfl)
theorem r19_draw : drawOk (fun g => (ann g).pure) (modeOf (ann 27) (idOf r19)) (frzOf (ann 27) (idOf r19)) (opsOf r19) = true := drawOk_of (an := [0, 0, 2, 7, 0, 0, 0, 96, 224, 0, 527, 2031, 4079, 8191, 16383, 32767]) (by kernel_rfl) (by kernel_rfl)
theorem r19_eq (K : List Item) (s : St) : den prog ann 27 (.code r19 :: K) s = mreg prog ann 27 none [] (some 16) [3085092, 2000087] [
    ⟨some 85, none, .v fun s => some (s.get 5)⟩,
    ⟨some 86, none, .v fun s => some (s.get 10)⟩,
    ⟨some 87, none, .v fun s => bslF 1 (bslA 1 1 [.int .i64 0] [(0, (s.get 86))])⟩,
    ⟨some 88, none, .w false (some 3) fun s => appendA 1 8 s.m (s.get 85) (s.get 87)⟩,
    ⟨some 89, none, .v fun s => some (s.get 6)⟩,
    ⟨some 90, none, .v fun s => some (s.get 6)⟩,
    ⟨some 91, none, .v fun s => some (s.get 8)⟩,
    ⟨some 92, none, .v fun s => idxSl 1 (s.get 90) (s.get 91)⟩,
    ⟨some 93, none, .v fun s => loadA false 1 s.m (s.get 92)⟩,
    ⟨some 94, none, .v fun s => some (s.get 9)⟩,
    ⟨some 95, none, .c 0 (fun s => (.fn 64 [] [])) fun s => [(s.get 94)]⟩,
    ⟨some 96, none, .v fun s => binA prog .add 9 (s.get 93) (s.get 95)⟩,
    ⟨some 97, none, .v fun s => bslF 1 (bslA 1 1 [.str []] [(0, (s.get 96))])⟩,
    ⟨some 98, none, .w false (some 13) fun s => appendA 1 16 s.m (s.get 89) (s.get 97)⟩,
    ⟨some 5, none, .v fun s => some (s.get 88)⟩,
    ⟨some 6, none, .v fun s => some (s.get 98)⟩] K s := (den_regD hf r19_draw K s).trans (by kernel_rfl)
theorem i5e_eq (K : List Item) (s : St) : den prog ann 27 (.code i5e :: K) s = den prog ann 27 (K) s := den_flat hf (l := []) (by kernel_rfl) K s
theorem r10_eq (K : List Item) (s : St) : den prog ann 27 (.code r10 :: K) s = mreg prog ann 27 (some [1, 5, 6, 7, 8, 9]) [] none [] [
    ⟨some 51, none, .v fun s => some (s.get 9)⟩,
    ⟨some 52, none, .v fun s => binA prog .add 3 (s.get 51) (.int .i64 1)⟩,
    ⟨some 9, none, .v fun s => some (s.get 52)⟩] K s := (den_reg hf _ K s).trans (by kernel_rfl)
theorem r5_eq (K : List Item) (s : St) : den prog ann 27 (.code r5 :: K) s = mreg prog ann 27 (some [1, 5, 6, 7, 8]) [] none [] [
    ⟨some 27, none, .v fun s => some (s.get 8)⟩,
    ⟨some 28, none, .v fun s => binA prog .add 3 (s.get 27) (.int .i64 1)⟩,
    ⟨some 8, none, .v fun s => some (s.get 28)⟩] K s := (den_reg hf _ K s).trans (by kernel_rfl)
theorem r20_eq (K : List Item) (s : St) : den prog ann 27 (.code r20 :: K) s = mreg prog ann 27 (some []) [] none [] [
    ⟨some 2, none, .v fun s => some (.str [])⟩,
    ⟨some 3, none, .v fun s => some (.bool false)⟩] K s := (den_reg hf _ K s).trans (by kernel_rfl)
theorem ret_eq (K : List Item) (s : St) : den prog ann 27 (.code .ret :: K) s = finM true [fun s => some (s.get 2), fun s => some (s.get 3)] s := (den_ret hf K s).trans (by kernel_rfl)
theorem nil_eq (s : St) : den prog ann 27 [] s = finM true [fun s => some (s.get 2), fun s => some (s.get 3)] s := (den_nil hf s).trans (by kernel_rfl)
theorem inBlock_eq (id : Nat) (K : List Item) (s : St) : den prog ann 27 (.inBlock id :: K) s = den prog ann 27 K s := den_inBlock hf id K s
theorem exit_eq (id : Nat) (K : List Item) (s : St) : den prog ann 27 (.code (.exit id) :: K) s = exitV prog ann 27 (exitTo id K) s := den_exitV hf id K s
theorem call_eq (v0 : AV) (m : Mem) (h : closedL [v0] = true) : denC prog ann 27 [v0] m = (den prog ann 27 [.code b] ⟨[(0, v0)], 99, Mem.empty⟩).bind fun r => some (r.1, m) := (denC_pure hf (b := b) (by kernel_rfl) (by kernel_rfl) (by kernel_rfl) h m).trans (by kernel_rfl)
theorem pure_eq : (ann 27).pure = true := by kernel_rfl
attribute [simp] b_eq r0_eq r1_eq r2_eq r3_eq k0_eq l0_eq r4_eq i0_eq i0t_eq i0e_eq k1_eq r6_eq i1_eq i1t_eq r7_eq i1e_eq r8_eq k2_eq l2_eq r9_eq i2_eq i2t_eq i2e_eq k3_eq r11_eq r12_eq k4_eq l4_eq r13_eq i3_eq i3t_eq i3e_eq k5_eq r15_eq i4_eq i4t_eq r16_eq i4e_eq r14_eq r17_eq i5_eq i5t_eq r18_eq r19_eq i5e_eq r10_eq r5_eq r20_eq ret_eq nil_eq inBlock_eq exit_eq pure_eq
end r07_Reset
end Go.Proofs.Ythnpflkpjimkfaa

/-
  THE LEAST WORD THAT LEADS ALL STATES TO ONE: the program's search. Conditions: none.
-/
namespace Go.Proofs.Ythnpflkpjimkfaa
open Go.AM
open Go.Proofs.Try (prog)
set_option linter.all false
set_option maxRecDepth 100000
set_option maxHeartbeats 8000000

theorem rst_bits {nv gv : AV} {ps : List AV} {rows : List (List Int)} {good : List Bool} {k : Nat} (hn : IsRows nv ps rows) (v : VB rows good k) {x a : Nat} (hx : x < 64) (ha : a < k) {x1 x5 x6 x47 x48 : AV} {K : List Item} {m : Mem} : ∀ (j s y : Nat), s + j = rows.length → y < 64 →
    brand_Reset.L4 x1 x5 x6 (.int .i64 x) (.int .i64 a) (.int .i64 y) x47 x48 nv (.int .i64 rows.length) (.int .i64 s) m K = brand_Reset.L4 x1 x5 x6 (.int .i64 x) (.int .i64 a) (.int .i64 (stepB rows x a j s y)) x47 x48 nv (.int .i64 rows.length) (.int .i64 rows.length) m K := by
  intro j
  induction j with
  | zero =>
    intro s y h1 hy
    have : s = rows.length := by omega
    subst this
    rfl
  | succ j ih =>
    intro s y h1 hy
    have hs : s < rows.length := by omega
    have n6 := v.n6
    obtain ⟨c1, c2⟩ := nx_lt v hs ha
    have b := v.rl s hs
    have iw := hn.row s hs
    have d1 := iw.idx (i := a) (by omega) .i64
    have e1 := ints_head (l := cth rows s) (i := a) (by omega)
    rw [c2] at e1
    have hws : IntKind.wrap .i64 ((s : Int) + 1) = (s : Int) + 1 := wrap_id (by omega) (by omega)
    have f1 := shr_b hx (s := s) (by omega)
    have f2 := one_b (s := s) hx
    have f3 := shl_b (n := nx rows s a) (by omega)
    have hp := pwB_lt (t := nx rows s a) (by omega)
    have f4 := or_b (x := y) (y := pwB (nx rows s a)) (by omega) (by omega)
    rw [stepB]
    by_cases c : shB x s % 2 = 1
    · have st := ih (s + 1) (y ||| pwB (nx rows s a)) (by omega) (Nat.or_lt_two_pow (n := 6) hy hp)
      simp only [Int.natCast_add, Int.cast_ofNat_Int] at st
      rw [if_pos c] at f2
      rw [if_pos c, ← st, brand_Reset.L4_eq]
      simp [hs, hn.idx hs, hn.head hs, d1, e1, f1, f2, f3, f4, hws, -binA_shl, -binA_shr, -binA_and, -binA_or]
      done
    · have st := ih (s + 1) y (by omega) hy
      simp only [Int.natCast_add, Int.cast_ofNat_Int] at st
      rw [if_neg c] at f2
      rw [if_neg c, ← st, brand_Reset.L4_eq]
      simp [hs, hn.idx hs, hn.head hs, d1, e1, f1, f2, hws, -binA_shl, -binA_shr, -binA_and, -binA_or]
      done
noncomputable def KS : List Item := [.code brand_Reset.r26, .code .ret]
noncomputable def KSI : List Item := .inBlock 1 :: .code brand_Reset.r7 :: .inLoop brand_Reset.l0 :: .inBlock 0 :: KS
theorem rst_in {nv gv : AV} {ps : List AV} {rows : List (List Int)} {good : List Bool} {k : Nat} (hn : IsRows nv ps rows) (v : VB rows good k) {iw i x : Nat} {w : List UInt8} (hx : x < 64) {r : Res} :
    ∀ (j a iq : Nat) (m : Mem) (q : AV) (S : List Nat × List (List UInt8)), a + j = k → Mp m iw (S.1.map encS) (S.2.map .str) → Gl m q iq 1 (S.1.length - i) ((S.1.drop i).map encS) → iw ≠ iq → S.1[i]? = some x → S.2[i]? = some w → BOk (· < 64) List.length S →
    (∀ m' q' iq', Mp m' iw ((bIn (nxS rows) extL x w j a S).1.map encS) ((bIn (nxS rows) extL x w j a S).2.map .str) → Gl m' q' iq' 1 ((bIn (nxS rows) extL x w j a S).1.length - i) (((bIn (nxS rows) extL x w j a S).1.drop i).map encS) → iw ≠ iq' →
      brand_Reset.L0 (.fptr [nv, gv]) (.map iw) (tlV q' 1) m' KS = some r) →
    brand_Reset.L2 (.fptr [nv, gv]) (.map iw) q (.int .i64 x) (.int .i64 k) (.int .i64 a) m KSI = some r := by
  intro j
  induction j with
  | zero =>
    intro a iq m q S h1 hm hq hne hS1 hS2 hS hk
    have e : a = k := by omega
    subst e
    have hi := (List.getElem?_eq_some_iff.1 hS1).1
    have hk := hk m q iq hm hq hne
    rw [brand_Reset.L2_eq]
    simp [KSI, hq.cut (by omega), hk]
    done
  | succ j ih =>
    intro a iq m q S h1 hm hq hne hS1 hS2 hS hk
    have ha : a < k := by omega
    have hi := (List.getElem?_eq_some_iff.1 hS1).1
    have n6 := v.n6
    have hwi : IntKind.wrap .i64 ((a : Int) + 1) = (a : Int) + 1 := wrap_id (by omega) (by have := v.k3; omega)
    have ha3 : a < 3 := by have := v.k3; omega
    have hlt := fun m => letter_spec ha3 m
    have hiq : iq < m.nx := hq.lt
    have hiw : iw < m.nx := hm.2
    have few := sets_few hS.nd hS.all
    have K := keysS (· < 64)
    have hy : nxS rows x a < 64 := stepB_lt v ha rows.length 0 0 (by omega) (by omega)
    have sb := fun (x1 x5 x6 x47 x48 : AV) (m : Mem) (K : List Item) => rst_bits (gv := gv) hn v hx ha (x1 := x1) (x5 := x5) (x6 := x6) (x47 := x47) (x48 := x48) (m := m) (K := K) rows.length 0 0 (by omega) (by omega)
    simp only [Int.ofNat_zero, Int.cast_ofNat_Int] at sb
    have sb' : stepB rows x a rows.length 0 0 = nxS rows x a := rfl
    simp only [sb'] at sb
    have l1 := fun z b => hm.look K hS.all hS.len hy z b
    have l2 := fun z b => hm.look K hS.all hS.len (c := x) hx z b
    rw [lkP_at hS.nd hS1 hS2] at l2
    simp only [encS] at l1 l2
    rw [bIn] at hk
    by_cases hc : nxS rows x a ∈ S.1
    · rw [if_pos hc] at hk
      obtain ⟨i', hi'⟩ := List.getElem?_of_mem hc
      have hi2 : i' < S.2.length := by rw [← hS.len]; exact (List.getElem?_eq_some_iff.1 hi').1
      have q1 := lkP_at hS.nd hi' (List.getElem?_eq_getElem hi2)
      rw [q1] at l1
      have st := ih (a + 1) iq m q S (by omega) hm hq hne hS1 hS2 hS hk
      simp only [Int.natCast_add, Int.cast_ofNat_Int] at st
      rw [brand_Reset.L2_eq]
      simp [ha, hn.len, sb]
      rw [brand_Reset.L4_eq]
      simp [l1, hwi, st]
      done
    · rw [if_neg hc] at hk
      have q1 := lkP_none (vs := S.2) hc
      rw [q1] at l1
      have hwl : w.length ≤ 64 := by
        have h1 := hS.wl w (List.mem_of_getElem? hS2)
        have h2 := hS.len
        omega
      have hll : w.length + (ltr a).length ≤ 4611686018427387904 := by simp [ltr]; omega
      have l2' := fun n => (hm.fr (m' := ⟨m.h, n⟩) rfl)
      have hm2 : Mp ⟨m.h, m.nx + 9⟩ iw (S.1.map encS) (S.2.map .str) := hm.fr rfl (by show iw < m.nx + 9; omega)
      have hm3 : Mp ⟨m.h, m.nx + 8⟩ iw (S.1.map encS) (S.2.map .str) := hm.fr rfl (by show iw < m.nx + 8; omega)
      have l2 := fun z b => hm2.look K hS.all hS.len (c := x) hx z b
      rw [lkP_at hS.nd hS1 hS2] at l2
      simp only [encS] at l2
      obtain ⟨m2, p1, p2, p3, p4⟩ := hm3.put K hS.all hS.len hy hc (extL w a)
      simp only [encS, extL] at p1
      have hq2 : Gl ⟨m2.h, m.nx + 9⟩ q iq 1 (S.1.length - i) ((S.1.drop i).map encS) := hq.fr (by show m2.h iq = m.h iq; rw [p4 iq (fun e => hne e.symm)]) (by show iq < m.nx + 9; omega)
      obtain ⟨q', m3, iq', g1, g2, g3, g4, g5⟩ := hq2.app (by' := 8) (ys := [encS (nxS rows x a)]) rfl (by simp; omega)
      have hm4 : Mp m3 iw ((S.1 ++ [nxS rows x a]).map encS) ((S.2 ++ [extL w a]).map .str) := p2.fr (by
        have := g5 iw (by show iw < m.nx + 9; omega) hne
        exact this) (by
        have h1 : m.nx + 9 ≤ m3.nx := g3
        omega)
      have st := ih (a + 1) iq' m3 q' (S.1 ++ [nxS rows x a], S.2 ++ [extL w a]) (by omega) hm4 (by
        have e : (S.1 ++ [nxS rows x a]).length - i = S.1.length - i + 1 := by simp; omega
        show Gl m3 q' iq' 1 ((S.1 ++ [nxS rows x a]).length - i) (((S.1 ++ [nxS rows x a]).drop i).map encS)
        rw [e, List.drop_append_of_le_length (by omega), List.map_append]
        exact g2) (by
        rcases g4 with e | e
        · rw [e]; exact hne
        · rw [e]; show iw ≠ m.nx + 9; omega) (by rw [List.getElem?_append_left (by omega)]; exact hS1) (by rw [List.getElem?_append_left (by rw [← hS.len]; omega)]; exact hS2) (bok_add hS hy hc (by
        have := hS.wl w (List.mem_of_getElem? hS2)
        simp [extL, ltr]; omega)) hk
      simp only [Int.natCast_add, Int.cast_ofNat_Int] at st
      simp only [encS] at g1
      rw [brand_Reset.L2_eq]
      simp [ha, hn.len, sb]
      rw [brand_Reset.L4_eq]
      simp [l1, hwi, l2, hlt, hll, p1, hq.one, g1, g2.one, st]
      done
theorem rst_out {nv gv : AV} {ps : List AV} {rows : List (List Int)} {good : List Bool} {k : Nat} (hn : IsRows nv ps rows) (v : VB rows good k) {iw : Nat} :
    ∀ (f i iq : Nat) (m : Mem) (q : AV) (S : List Nat × List (List UInt8)), Mp m iw (S.1.map encS) (S.2.map .str) → Gl m q iq 1 (S.1.length - i) ((S.1.drop i).map encS) → iw ≠ iq → BOk (· < 64) List.length S → i ≤ S.1.length → 64 < f + i →
    brand_Reset.L0 (.fptr [nv, gv]) (.map iw) q m KS = some (resP (bfs (nxS rows) extL stS k f i S), Mem.empty) := by
  intro f
  induction f with
  | zero =>
    intro i iq m q S hm hq hne hS hi hf
    have few := sets_few hS.nd hS.all
    omega
  | succ f ih =>
    intro i iq m q S hm hq hne hS hi hf
    by_cases c : i < S.1.length
    · have hx := List.getElem?_eq_getElem c
      have c2 : i < S.2.length := by rw [← hS.len]; exact c
      have hw := List.getElem?_eq_getElem c2
      generalize S.1[i] = x at hx
      generalize S.2[i] = w at hw
      have hx6 : x < 64 := hS.all x (List.mem_of_getElem? hx)
      have sok : 0 < S.1.length - i := by omega
      rw [bfs, hx, hw]
      simp only []
      have ld := hq.load1 (i := 0) (by omega)
      have e0 : ((S.1.drop i).map encS)[0]? = some (encS x) := by simp [hx]
      rw [e0] at ld
      have hi0 := hq.idx0 (by omega) .i64
      have few := sets_few hS.nd hS.all
      have l1 := fun z b => hm.look (keysS (· < 64)) hS.all hS.len (c := x) hx6 z b
      rw [lkP_at hS.nd hx hw] at l1
      have f1 := low_b hx6
      simp only [encS] at l1 ld
      by_cases hst : stS x = true
      · rw [if_pos hst]
        have hst' : lowB x = 0 := by simpa [stS] using hst
        rw [hst'] at f1
        simp only [Int.ofNat_zero, Int.cast_ofNat_Int] at f1
        rw [brand_Reset.L0_eq]
        simp [hq.len, sok, hi0, ld, f1, l1, resP, -binA_and]
        done
      · rw [if_neg hst]
        have hst' : ¬ lowB x = 0 := by simpa [stS] using hst
        have r0 := v.rl 0 v.n1
        have i0 := hn.idx (i := 0) v.n1 .i64
        have j0 := hn.head (i := 0) v.n1
        have iw0 := hn.row 0 v.n1
        have st := rst_in (gv := gv) hn v (iw := iw) (i := i) (x := x) (w := w) hx6 k 0 iq m q S (by omega) hm hq hne hx hw hS (fun m' q' iq' h1 h2 h3 => by
          obtain ⟨p', q'', e1, e2⟩ := bIn_pre (nxS rows) extL x w k 0 S
          have hS' := bIn_ok (nxS rows) extL (ok := (· < 64)) (ln := List.length) (k := k) (fun y a hy ha => stepB_lt v ha rows.length 0 0 (by omega) (by omega)) (fun w a => by simp [extL, ltr]) x w hx6 k 0 S (by omega) hS (hS.wl w (List.mem_of_getElem? hw))
          have hlen : i < (bIn (nxS rows) extL x w k 0 S).1.length := by rw [e1]; simp; omega
          have ht := h2.tail (by omega)
          exact ih (i + 1) iq' m' _ _ h1 (by
            have e : (bIn (nxS rows) extL x w k 0 S).1.length - (i + 1) = (bIn (nxS rows) extL x w k 0 S).1.length - i - 1 := by omega
            rw [e, ← List.drop_drop, List.map_drop]; exact ht) h3 hS' (by omega) (by omega))
        simp only [Int.ofNat_zero, Int.cast_ofNat_Int] at st i0
        rw [List.drop_zero] at i0 j0
        rw [brand_Reset.L0_eq]
        simp [hq.len, sok, hi0, ld, f1, hst', i0, j0, iw0.len, r0, -binA_and, show ¬ (lowB x : Int) = 0 by omega]
        exact st
    · have c0 : S.1.length - i = 0 := by omega
      have hx : S.1[i]? = none := List.getElem?_eq_none (by omega)
      have hl := hq.len
      rw [c0] at hl
      rw [bfs, hx, brand_Reset.L0_eq]
      simp [hl, resP, KS]
      done
theorem all_b {rows : List (List Int)} {good : List Bool} {k : Nat} (v : VB rows good k) : IntKind.wrap .i64 ((pwB rows.length : Int) - 1) = ((pwB rows.length - 1 : Nat) : Int) ∧ pwB rows.length - 1 < 64 := by
  have n6 := v.n6
  have h : pwB rows.length ≤ 64 := Nat.pow_le_pow_right (i := rows.length) (j := 6) (by omega) n6
  have h0 : 0 < pwB rows.length := Nat.pow_pos (by omega)
  exact ⟨by rw [wrap_id (by omega) (by omega)]; omega, by omega⟩
theorem reset_spec {nv gv : AV} {ps : List AV} {rows : List (List Int)} {good : List Bool} (hn : IsRows nv ps rows) (hg : IsB gv good) (hl : rows.length ≤ 1000) (hgl : good.length ≤ 1000) (hr : ∀ i, i < rows.length → (cth rows i).length ≤ 1000) (m : Mem) :
    denC prog ann 23 [.agg [nv, gv]] m = some (if validB rows good = true then resP (rstW rows (cth rows 0).length) else .tup [.str [], .int .i64 1], m) := by
  have h1 := fun m => valid_spec hn hg hl hgl hr m
  rw [brand_Reset.call_eq _ _ (by simp [hn.closed, hg.closed])]
  cases c0 : validB rows good with
  | false =>
    rw [c0] at h1
    simp [hn.one, hg.one, hn.closed, hg.closed, h1]
    done
  | true =>
    rw [c0] at h1
    have v := VB.of c0
    obtain ⟨f0, f1⟩ := all_b v
    have f2 := shl_b v.n6
    have hm0 : Mp ⟨upd Mem.empty.h 0 (some (AObj.map 0 [] [])), 1⟩ 0 (([] : List Nat).map encS) (([] : List (List UInt8)).map .str) := ⟨⟨0, by simp⟩, by show 0 < 1; omega⟩
    obtain ⟨m1, p1, p2, p3, p4⟩ := hm0.put (keysS (· < 64)) (by simp) rfl f1 (by simp) []
    simp only [encS] at p1
    have p3 : m1.nx = 1 := p3
    have st := rst_out (gv := gv) hn v (iw := 0) 65 0 1 ⟨upd m1.h 1 (some (AObj.cells [.int .i64 ((pwB rows.length - 1 : Nat) : Int)])), 2⟩ (.sl 1 1 0 1 1) ([pwB rows.length - 1], [[]]) (p2.fr (show upd m1.h 1 (some (AObj.cells [.int .i64 ((pwB rows.length - 1 : Nat) : Int)])) 0 = m1.h 0 from updNe (by omega)) (by show 0 < 2; omega)) ⟨⟨[], rfl, by simp [encS]⟩, rfl, by show 1 < 2; omega⟩ (by omega) ⟨by simp, by simpa using f1, rfl, by simp⟩ (by simp) (by omega)
    simp [hn.one, hg.one, hn.closed, hg.closed, h1, hn.len, f2, f0, p1, p3, -binA_shl]
    simp only [KS] at st
    rw [st]
    rfl
end Go.Proofs.Ythnpflkpjimkfaa

/-
  THE LEAST WORD THAT ONLY ONE OF TWO BRANDS ACCEPTS: the specification's search. Conditions: none.
-/
namespace Go.Proofs.Ythnpflkpjimkfaa
open Go.AM
open Go.Proofs.Try (prog)
set_option linter.all false
set_option maxRecDepth 100000
set_option maxHeartbeats 8000000

noncomputable def KRD : List Item := [.code r07_Differ.r15, .code .ret]
noncomputable def KRI : List Item := .inBlock 1 :: .code r07_Differ.r4 :: .inLoop r07_Differ.l0 :: .inBlock 0 :: KRD

/-- What lies in memory: the pairs, their words, the pairs known. -/
structure Rd (m : Mem) (x6 x7 : AV) (i6 i7 i8 : Nat) (S : List PN × List (List UInt8)) : Prop where
  p : Gl m x6 i6 2 S.1.length (flP S.1)
  w : Gl m x7 i7 1 S.2.length (S.2.map .str)
  k : Mp m i8 (S.1.map encP) ((S.1.map fun _ => true).map .bool)
  d1 : i6 ≠ i7
  d2 : i6 ≠ i8
  d3 : i7 ≠ i8

def rresP : Option (List UInt8) → AV
  | some w => .tup [.str w, .bool true]
  | none => .tup [.str [], .bool false]
end Go.Proofs.Ythnpflkpjimkfaa

/-
  THE LEAST WORD THAT LEADS ALL STATES TO ONE: the specification's search. Conditions: none.
-/
namespace Go.Proofs.Ythnpflkpjimkfaa
open Go.AM
open Go.Proofs.Try (prog)
set_option linter.all false
set_option maxRecDepth 100000
set_option maxHeartbeats 8000000

/-- What lies in memory: the sets, their words, the sets known. -/
structure Rs (m : Mem) (x6 x7 : AV) (i6 i7 i8 : Nat) (S : List Nat × List (List UInt8)) : Prop where
  p : Gl m x6 i6 1 S.1.length (S.1.map encS)
  w : Gl m x7 i7 1 S.2.length (S.2.map .str)
  k : Mp m i8 (S.1.map encS) ((S.1.map fun _ => true).map .bool)
  d1 : i6 ≠ i7
  d2 : i6 ≠ i8
  d3 : i7 ≠ i8

noncomputable def KRS : List Item := [.code r07_Reset.r20, .code .ret]
noncomputable def KRSI : List Item := .inBlock 1 :: .code r07_Reset.r5 :: .inLoop r07_Reset.l0 :: .inBlock 0 :: KRS
end Go.Proofs.Ythnpflkpjimkfaa

/-
  BrandAccepts: the law answers true. Conditions: none.
-/
namespace Go.Proofs.Ythnpflkpjimkfaa
open Go.AM
open Go.Proofs.Try (prog)
set_option linter.all false
set_option maxRecDepth 100000
set_option maxHeartbeats 8000000

theorem IsRows.cells {v : AV} {ps : List AV} {rows : List (List Int)} (h : IsRows v ps rows) : v.cells = [v] := by rcases h.val with ⟨rfl, _⟩ | ⟨_, rfl⟩ <;> rfl
end Go.Proofs.Ythnpflkpjimkfaa

/-
  BrandTurned: the law answers true. Conditions: none.
-/
namespace Go.Proofs.Ythnpflkpjimkfaa
open Go.AM
open Go.Proofs.Try (prog)
set_option linter.all false
set_option maxRecDepth 100000
set_option maxHeartbeats 8000000

section
variable {rows : List (List Int)} {good : List Bool} {k : Nat}
theorem numS_congr {al al' : Nat → Nat → Bool} {n s : Nat} {P : List Nat} (h : ∀ s t, s < n → t < n → al s t = al' s t) (hs : s < n) (hP : ∀ x ∈ P, x < n) : numS al s P = numS al' s P := by
  have : P.any (al s) = P.any (al' s) := by
    rw [Bool.eq_iff_iff, List.any_eq_true, List.any_eq_true]
    constructor
    · rintro ⟨x, hx, e⟩; exact ⟨x, hx, by rw [← h s x hs (hP x hx)]; exact e⟩
    · rintro ⟨x, hx, e⟩; exact ⟨x, hx, by rw [h s x hs (hP x hx)]; exact e⟩
  rw [numS, numS, this]
theorem ded_congr {al al' : Nat → Nat → Bool} {n : Nat} (h : ∀ s t, s < n → t < n → al s t = al' s t) : ∀ (R P : List Nat), (∀ x ∈ R, x < n) → (∀ x ∈ P, x < n) → R.foldl (fun P s => numS al s P) P = R.foldl (fun P s => numS al' s P) P
  | [], P, _, _ => rfl
  | r :: R, P, hR, hP => by
    rw [List.foldl_cons, List.foldl_cons, numS_congr h (hR r (by simp)) hP]
    refine ded_congr h R _ (fun x hx => hR x (by simp [hx])) (fun x hx => ?_)
    rw [numS] at hx
    split at hx
    · exact hP x hx
    · rcases List.mem_append.1 hx with hx | hx
      · exact hP x hx
      · simp at hx; subst hx; exact hR x (by simp)
theorem idxA_congr {al al' : Nat → Nat → Bool} {n s : Nat} {P : List Nat} (h : ∀ s t, s < n → t < n → al s t = al' s t) (hs : s < n) (hP : ∀ x ∈ P, x < n) : idxA al P s = idxA al' P s := by
  rw [idxA, idxA]
  induction P with
  | nil => rfl
  | cons x P ih =>
    rw [List.findIdx_cons, List.findIdx_cons, h s x hs (hP x (by simp)), ih (fun y hy => hP y (by simp [hy]))]
theorem repL_not (v : VB rows good k) : repL rows (good.map not) k = repL rows good k := by
  obtain ⟨R1, R2⟩ := rch_ok v
  exact ded_congr (fun s t hs ht => alB_not (fun _ h => h) v hs ht) (rchS rows k).1 [] R1.all (by simp)
theorem rowsM_not (v : VB rows good k) : rowsM rows (good.map not) k = rowsM rows good k := by
  obtain ⟨R1, R2⟩ := rch_ok v
  rw [rowsM, rowsM, repL_not v]
  refine List.map_congr_left fun q hq => List.map_congr_left fun a ha => ?_
  have hqR := ded_mem hq
  have ha : a < k := by simpa using ha
  have hx := idxA_congr (al := alB rows (good.map not) k) (al' := alB rows good k) (fun s t hs ht => alB_not (fun _ h => h) v hs ht) (R1.all _ (R2 q hqR a ha)) (P := repL rows good k) (fun x hx => R1.all x (ded_mem hx))
  rw [hx]
theorem VB_not (v : VB rows good k) : VB rows (good.map not) k := ⟨v.n1, v.n6, by simp [v.gl], v.k1, v.k3, v.rl, v.rg⟩
end
noncomputable def KQ : List Item := [.code l07_BrandTurned.r7, .code l07_BrandTurned.r8, .code l07_BrandTurned.r9, .code l07_BrandTurned.r10, .code l07_BrandTurned.r11, .code l07_BrandTurned.r12, .code l07_BrandTurned.r13, .code .ret]
theorem tur_loop {nv gv : AV} {good : List Bool} (hg : IsB gv good) (hn1 : nv.one = true) (hl : good.length ≤ 6) {o lo : Nat} (ho : o < lo) {r : Option Res} :
    ∀ (c i : Nat) (h : Nat → Option AObj) (nx0 : Nat) (g : AV), i + c = good.length → lo ≤ nx0 → h o = some (.cells [nv, g]) → Nl h g (bls ((good.take i).map not)) lo nx0 →
    (∀ h' nx' g', lo ≤ nx' → h' o = some (.cells [nv, g']) → Nl h' g' (bls (good.map not)) lo nx' → l07_BrandTurned.L0 (.fptr [nv, gv]) (.ptr o 0 2) (.int .i64 good.length) ⟨h', nx'⟩ KQ = r) →
    l07_BrandTurned.L0 (.fptr [nv, gv]) (.ptr o 0 2) (.int .i64 i) ⟨h, nx0⟩ KQ = r := by
  intro c
  induction c with
  | zero =>
    intro i h nx0 g h1 hlo ho' N hk
    have e : i = good.length := by omega
    subst e
    rw [List.take_length] at N
    exact hk h nx0 g hlo ho' N
  | succ c ih =>
    intro i h nx0 g h1 hlo ho' N hk
    have hi : i < good.length := by omega
    have hwi : IntKind.wrap .i64 ((i : Int) + 1) = (i : Int) + 1 := wrap_id (by omega) (by omega)
    have b1 := bls_head (bs := good) hi
    have hlb : (bls ((good.take i).map not)).length ≤ 6 := by simp; omega
    obtain ⟨v1, h2, n2, g1, g2, g3, g4, g5, g6, g7⟩ := N.app (nx := nx0 + 9) (by' := 1) (by omega) (by omega) (by simp only [room_dec, Bool.and_eq_true, decide_eq_true_eq]; omega) (.bool (!bnth good i))
    have e1 : bls ((good.take i).map not) ++ [.bool (!bnth good i)] = bls ((good.take (i + 1)).map not) := by
      have hgi : good[i]? = some (bnth good i) := by simp [bnth, hi, List.getD_eq_getElem?_getD]
      rw [List.take_add_one, hgi]
      simp only [Option.toList_some, List.map_append, List.map_cons, List.map_nil, bls]
    rw [e1] at g2
    have ho2 : h2 o = some (.cells [nv, g]) := by
      rw [g6 o (fun e => by
        rcases g5 o e with q | q
        · have := N.oid q; omega
        · omega), ho']
    have st := ih (i + 1) (upd h2 o (some (.cells [nv, v1]))) (nx0 + 12) v1 (by omega) (by omega) (by simp) (g2.fr (fun y y1 y2 _ => updNe (by omega)) (by omega)) hk
    simp only [Int.natCast_add, Int.cast_ofNat_Int] at st
    rw [l07_BrandTurned.L0_eq]
    simp [hg.len, hi, ho', hg.idx hi, b1, N.one, g1, ho2, (show v1.one = true from g2.one), hwi]
    exact st
theorem tur_runs {d : Nat} (a0 : AV) (h0 : DatV prog (d + 4) 37 a0) : ∃ m', denC prog ann 12 [a0] Mem.empty = some (.bool true, m') := by
  obtain ⟨s0, s1, q, bv, l, rfl, b0, b1, b2, hb, hlb, _⟩ := datV37 h0
  obtain ⟨rows, good, k, nv, gv, ps, hn, hg, v, hp⟩ := plan_spec b0 b1 b2 hb hlb
  have v' := VB_not v
  have n6 := v.n6
  have k3 := v.k3
  have hgl := v.gl
  have hr : ∀ i, i < rows.length → (cth rows i).length ≤ 1000 := fun i hi => by rw [v.rl i hi]; omega
  have hg' : IsB (.fsl false (good.map not).length (bls (good.map not))) (good.map not) := .inr ⟨false, rfl⟩
  have vt := v.to
  have vt' := v'.to
  have m1 := fun m => monoid_spec hn hg (by omega) (by omega) hr m
  have m2 := fun m => monoid_spec hn hg' (by omega) (by simp; omega) hr m
  have c1 := fun m => classes45_spec hn hg (by omega) (by omega) hr m
  have c2 := fun m => classes45_spec hn hg' (by omega) (by simp; omega) hr m
  have r1 := fun m => reset_spec hn hg (by omega) (by omega) hr m
  have r2 := fun m => reset_spec hn hg' (by omega) (by simp; omega) hr m
  have emb : madeB rows (good.map not) k = madeB rows good k := by rw [madeB, madeB, rowsM_not v]
  have erm := rowsM_not v
  rw [vt, if_pos rfl, v.k0] at m1 r1
  rw [vt', if_pos rfl, v.k0] at m2 r2
  rw [emb] at m2
  unfold clsRes at c1 c2
  rw [vt, if_pos rfl, v.k0] at c1
  rw [vt', if_pos rfl, v.k0, emb, erm] at c2
  refine ⟨Mem.empty, ?_⟩
  rw [l07_BrandTurned.call_eq _ _ (by simp [hb.closed])]
  have key : l07_BrandTurned.L0 (.fptr [nv, gv]) (.ptr 1 0 2) (.int .i64 (0 : Nat)) ⟨upd (upd Mem.empty.h 0 none) 1 (some (.cells [nv, .nils])), 2⟩ KQ = some (.bool true, Mem.empty) := by
    refine tur_loop (nv := nv) hg hn.one (by omega) (o := 1) (lo := 2) (by omega) good.length 0 _ 2 .nils (by omega) (by omega) (by simp) .nil ?_
    intro h' nx' g' hlo ho N
    obtain ⟨G, rfl, g1, g2, g3⟩ := N.sl (N.nn (by
      intro e
      have := congrArg List.length e
      simp only [bls_len, List.length_map, List.length_nil] at this
      have := v.n1
      omega))
    have hlm : (bls (good.map not)).length = good.length := by simp
    have hG1 : (1 == G) = false := beq_eq_false_iff_ne.2 (by omega)
    have tk : (bls (good.map not)).take good.length = bls (good.map not) := List.take_of_length_le (by simp)
    simp only [List.length_map] at m2 c2 r2 hg'
    cases e : madeB rows good k with
    | none =>
      rw [e] at m1 m2 c1 c2
      have s1 := fun m => same_refl (v := .nils) (v' := .nils) (l := []) (.inl ⟨rfl, rfl⟩) (.inl ⟨rfl, rfl⟩) (by simp) m
      have s2 := fun m => samel_refl (v := .nils) (v' := .nils) (l := []) (.inl ⟨rfl, rfl⟩) (.inl ⟨rfl, rfl⟩) (by simp) (by simp) m
      rw [l07_BrandTurned.L0_eq]
      cases er : rstW rows k with
      | none =>
        rw [er] at r1 r2
        simp [KQ, hg.len, ho, g1, hlm, tk, frz1, frzV, hG1, frzL, hn.one, hg.one, hn.closed, hg.closed, hn.cells, hg.cells, m1, m2, c1, c2, r1, r2, s1, s2, resP, lives_spec]
        done
      | some w =>
        rw [er] at r1 r2
        simp [KQ, hg.len, ho, g1, hlm, tk, frz1, frzV, hG1, frzL, hn.one, hg.one, hn.closed, hg.closed, hn.cells, hg.cells, m1, m2, c1, c2, r1, r2, s1, s2, resP, lives_spec]
        done
    | some S =>
      rw [e] at m1 m2 c1 c2
      have W := MW_of v e
      have wl := W.ok.le
      have wle := W.ok.len
      have cf := clsL_few (eqB (rowsM rows good k) S k true true) S.1.length
      have i1 := wdsV_is S
      have i2 := clsV_is S (clsM (rowsM rows good k) S k true true)
      have s1 := fun m => same_refl i1 i1 (by omega) m
      have s2 := fun m => samel_refl i2 i2 (by simp only [clsS, clsM, List.length_map]; omega) (fun x hx => by
        simp only [clsS, clsM, List.mem_map] at hx
        obtain ⟨c, hc, rfl⟩ := hx
        have := cf.2 c hc
        rw [List.length_map]; omega) m
      simp only [] at m1 m2 c1 c2
      generalize clsV S (clsM (rowsM rows good k) S k true true) = cv at *
      generalize wdsV S = wv at *
      rw [l07_BrandTurned.L0_eq]
      cases er : rstW rows k with
      | none =>
        rw [er] at r1 r2
        simp [KQ, hg.len, ho, g1, hlm, tk, frz1, frzV, hG1, frzL, hn.one, hg.one, hn.closed, hg.closed, hn.cells, hg.cells, i1.one, i1.closed, i2.one, i2.closed, m1, m2, c1, c2, r1, r2, s1, s2, resP, lives_spec]
        done
      | some w =>
        rw [er] at r1 r2
        simp [KQ, hg.len, ho, g1, hlm, tk, frz1, frzV, hG1, frzL, hn.one, hg.one, hn.closed, hg.closed, hn.cells, hg.cells, i1.one, i1.closed, i2.one, i2.closed, m1, m2, c1, c2, r1, r2, s1, s2, resP, lives_spec]
        done
  simp only [Int.ofNat_zero, Int.cast_ofNat_Int, KQ] at key
  simp [hb.one, hb.closed, hp, hn.one, hg.one, hn.closed, hg.closed, hn.cells, hg.cells]
  rw [key]
  rfl
end Go.Proofs.Ythnpflkpjimkfaa
