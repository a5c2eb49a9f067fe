/-
  BODIES OF FUNCTIONS OF THE PROGRAM AS SMALL OPERATIONS (written by gen.py; checked by the kernel against the program). Conditions: none.
-/
import Derived.Test.YtdkmepjedjclkaaKAmH
set_option linter.all false
namespace Go.Proofs.Ytdkmepjedjclkaa
open Go.AM
open Go.Proofs.Try (prog)
set_option maxRecDepth 100000
set_option linter.all false

namespace r01_Same
/-- pommel/pommelref01.Same -/
noncomputable def b : Code := (Try.f21.body).getD .skip
theorem hf : prog.funcs[21]? = some Try.f21 := by kernel_rfl
noncomputable def r0 : Code := findReg b 0
noncomputable def r1 : Code := findReg b 1
theorem b_eq (K : List Item) (s : St) : den prog ann 21 (.code b :: K) s = den prog ann 21 (.code r0 :: .code r1 :: .code .ret :: K) s := den_flat hf (l := [r0, r1, .ret]) (by kernel_rfl) K s
theorem r0_eq (K : List Item) (s : St) : den prog ann 21 (.code r0 :: K) s = mreg prog ann 21 none [] none [] [
    ⟨some 4, none, .v fun s => some (.bool false)⟩] K s := (den_reg hf _ K s).trans (by kernel_rfl)
theorem r1_eq (K : List Item) (s : St) : den prog ann 21 (.code r1 :: K) s = mreg prog ann 21 none [] none [] [
    ⟨some 5, none, .v fun s => some (s.get 0)⟩,
    ⟨some 6, none, .v fun s => some (s.get 1)⟩,
    ⟨some 7, none, .c 0 (fun s => (.fn 67 [] [])) fun s => [(s.get 5), (s.get 6)]⟩,
    ⟨some 8, none, .v fun s => unA .not (s.get 7)⟩,
    ⟨some 9, none, .v fun s => some (s.get 8)⟩,
    ⟨some 10, some (9, true), .v fun s => some (s.get 1)⟩,
    ⟨some 11, some (9, true), .v fun s => some (s.get 0)⟩,
    ⟨some 12, some (9, true), .c 0 (fun s => (.fn 67 [] [])) fun s => [(s.get 10), (s.get 11)]⟩,
    ⟨some 13, some (9, true), .v fun s => unA .not (s.get 12)⟩,
    ⟨some 14, none, .v fun s => pickA (s.get 9) (s.get 13) (.bool false)⟩,
    ⟨some 4, none, .v fun s => some (s.get 14)⟩] K s := (den_reg hf _ K s).trans (by kernel_rfl)
theorem ret_eq (K : List Item) (s : St) : den prog ann 21 (.code .ret :: K) s = finM true [fun s => some (s.get 4)] s := (den_ret hf K s).trans (by kernel_rfl)
theorem nil_eq (s : St) : den prog ann 21 [] s = finM true [fun s => some (s.get 4)] s := (den_nil hf s).trans (by kernel_rfl)
theorem inBlock_eq (id : Nat) (K : List Item) (s : St) : den prog ann 21 (.inBlock id :: K) s = den prog ann 21 K s := den_inBlock hf id K s
theorem exit_eq (id : Nat) (K : List Item) (s : St) : den prog ann 21 (.code (.exit id) :: K) s = exitV prog ann 21 (exitTo id K) s := den_exitV hf id K s
theorem call_eq (v0 v1 : AV) (m : Mem) (h : closedL [v0, v1] = true) : denC prog ann 21 [v0, v1] m = (den prog ann 21 [.code b] ⟨[(0, v0), (1, v1)], 15, Mem.empty⟩).bind fun r => some (r.1, m) := (denC_pure hf (b := b) (by kernel_rfl) (by kernel_rfl) (by kernel_rfl) h m).trans (by kernel_rfl)
theorem pure_eq : (ann 21).pure = true := by kernel_rfl
attribute [simp] b_eq r0_eq r1_eq ret_eq nil_eq inBlock_eq exit_eq pure_eq
end r01_Same

namespace r01_Before
/-- pommel/pommelref01.Before -/
noncomputable def b : Code := (Try.f67.body).getD .skip
theorem hf : prog.funcs[67]? = some Try.f67 := by kernel_rfl
noncomputable def r0 : Code := findReg b 0
noncomputable def r1 : Code := findReg b 1
noncomputable def k0 : Code := findBlk b 0
noncomputable def l0 : Code := loopOf k0
noncomputable def L0 (x0 x1 x5 : AV) (m : Mem) (K : List Item) : Option Res := den prog ann 67 (.code l0 :: .inLoop l0 :: .inBlock 0 :: K) ⟨[(0, x0), (1, x1), (5, x5)], 41, m⟩
noncomputable def r2 : Code := findReg b 2
noncomputable def i0 : Code := findCond b 0
noncomputable def i0t : Code := thenOf i0
noncomputable def i0e : Code := elseOf i0
noncomputable def k1 : Code := findBlk b 1
noncomputable def r4 : Code := findReg b 4
noncomputable def i1 : Code := findCond b 1
noncomputable def i1t : Code := thenOf i1
noncomputable def i1e : Code := elseOf i1
noncomputable def r5 : Code := findReg b 5
noncomputable def r3 : Code := findReg b 3
noncomputable def r6 : Code := findReg b 6
theorem b_eq (K : List Item) (s : St) : den prog ann 67 (.code b :: K) s = den prog ann 67 (.code r0 :: .code r1 :: .code k0 :: .code r6 :: .code .ret :: K) s := den_flat hf (l := [r0, r1, k0, r6, .ret]) (by kernel_rfl) K s
theorem r0_eq (K : List Item) (s : St) : den prog ann 67 (.code r0 :: K) s = mreg prog ann 67 none [] none [] [
    ⟨some 4, none, .v fun s => some (.bool false)⟩] K s := (den_reg hf _ K s).trans (by kernel_rfl)
theorem r1_eq (K : List Item) (s : St) : den prog ann 67 (.code r1 :: K) s = mreg prog ann 67 none [] none [] [
    ⟨some 5, none, .v fun s => some (.int .i64 0)⟩] K s := (den_reg hf _ K s).trans (by kernel_rfl)
theorem k0_eq (K : List Item) (t : List (Nat × AV)) (m : Mem) : den prog ann 67 (.code k0 :: K) ⟨t, 41, m⟩ = L0 (get t 0) (get t 1) (get t 5) m K := den_loop_enter hf (b := l0) (id := 2) (l := [0, 1, 5]) (by kernel_rfl) (by kernel_rfl) (by kernel_rfl) K _
theorem l0_eq (K : List Item) (t : List (Nat × AV)) (m : Mem) : den prog ann 67 (.inLoop l0 :: .inBlock 0 :: K) ⟨t, 41, m⟩ = L0 (get t 0) (get t 1) (get t 5) m K := den_loop_again hf (id := 2) (l := [0, 1, 5]) (by kernel_rfl) (by kernel_rfl) (.inBlock 0 :: K) _
theorem L0_eq (x0 x1 x5 : AV) (m : Mem) (K : List Item) : L0 x0 x1 x5 m K = den prog ann 67 (.code r2 :: .code i0 :: .code k1 :: .code r3 :: .inLoop l0 :: .inBlock 0 :: K) ⟨[(0, x0), (1, x1), (5, x5)], 41, m⟩ := den_flat hf (l := [r2, i0, k1, r3]) (by kernel_rfl) _ _
theorem r2_eq (K : List Item) (s : St) : den prog ann 67 (.code r2 :: K) s = mreg prog ann 67 (some [0, 1, 5]) [] none [] [
    ⟨some 6, none, .v fun s => some (s.get 5)⟩,
    ⟨some 7, none, .v fun s => some (s.get 0)⟩,
    ⟨some 8, none, .v fun s => lenSl (s.get 7)⟩,
    ⟨some 9, none, .v fun s => binA prog .lss 3 (s.get 6) (s.get 8)⟩,
    ⟨some 10, none, .v fun s => some (s.get 9)⟩,
    ⟨some 11, some (10, true), .v fun s => some (s.get 5)⟩,
    ⟨some 12, some (10, true), .v fun s => some (s.get 1)⟩,
    ⟨some 13, some (10, true), .v fun s => lenSl (s.get 12)⟩,
    ⟨some 14, some (10, true), .v fun s => binA prog .lss 3 (s.get 11) (s.get 13)⟩,
    ⟨some 15, none, .v fun s => pickA (s.get 10) (s.get 14) (.bool false)⟩] K s := (den_reg hf _ K s).trans (by kernel_rfl)
theorem i0_eq (K : List Item) (s : St) : den prog ann 67 (.code i0 :: K) s = ifV prog ann 67 15 i0t i0e K s (s.get 15) := den_if hf (by kernel_rfl) K s
theorem i0t_eq (K : List Item) (s : St) : den prog ann 67 (.code i0t :: K) s = den prog ann 67 (K) s := den_flat hf (l := []) (by kernel_rfl) K s
theorem i0e_eq (K : List Item) (s : St) : den prog ann 67 (.code i0e :: K) s = den prog ann 67 (.code (.exit 0) :: K) s := den_flat hf (l := [(.exit 0)]) (by kernel_rfl) K s
theorem k1_eq (K : List Item) (s : St) : den prog ann 67 (.code k1 :: K) s = den prog ann 67 (.code r4 :: .code i1 :: .inBlock 1 :: K) s := den_blk hf (b := blkOf k1) (l := [r4, i1]) (by kernel_rfl) (by kernel_rfl) K s
theorem r4_draw : drawOk (fun g => (ann g).pure) (modeOf (ann 67) (idOf r4)) (frzOf (ann 67) (idOf r4)) (opsOf r4) = true := drawOk_of (an := [0, 0, 3, 7, 0, 0, 48, 112, 255]) (by kernel_rfl) (by kernel_rfl)
theorem r4_eq (K : List Item) (s : St) : den prog ann 67 (.code r4 :: K) s = mreg prog ann 67 none [] (some 9) [] [
    ⟨some 18, none, .v fun s => some (s.get 0)⟩,
    ⟨some 19, none, .v fun s => some (s.get 5)⟩,
    ⟨some 20, none, .v fun s => idxSl 1 (s.get 18) (s.get 19)⟩,
    ⟨some 21, none, .v fun s => loadF false 1 (s.get 20)⟩,
    ⟨some 22, none, .v fun s => some (s.get 1)⟩,
    ⟨some 23, none, .v fun s => some (s.get 5)⟩,
    ⟨some 24, none, .v fun s => idxSl 1 (s.get 22) (s.get 23)⟩,
    ⟨some 25, none, .v fun s => loadF false 1 (s.get 24)⟩,
    ⟨some 26, none, .v fun s => binA prog .neq 3 (s.get 21) (s.get 25)⟩] K s := (den_regD hf r4_draw K s).trans (by kernel_rfl)
theorem i1_eq (K : List Item) (s : St) : den prog ann 67 (.code i1 :: K) s = ifV prog ann 67 26 i1t i1e K s (s.get 26) := den_if hf (by kernel_rfl) K s
theorem i1t_eq (K : List Item) (s : St) : den prog ann 67 (.code i1t :: K) s = den prog ann 67 (.code r5 :: .code .ret :: K) s := den_flat hf (l := [r5, .ret]) (by kernel_rfl) K s
theorem r5_draw : drawOk (fun g => (ann g).pure) (modeOf (ann 67) (idOf r5)) (frzOf (ann 67) (idOf r5)) (opsOf r5) = true := drawOk_of (an := [0, 0, 3, 7, 0, 0, 48, 112, 255, 511]) (by kernel_rfl) (by kernel_rfl)
theorem r5_eq (K : List Item) (s : St) : den prog ann 67 (.code r5 :: K) s = mreg prog ann 67 none [] (some 10) [] [
    ⟨some 27, none, .v fun s => some (s.get 0)⟩,
    ⟨some 28, none, .v fun s => some (s.get 5)⟩,
    ⟨some 29, none, .v fun s => idxSl 1 (s.get 27) (s.get 28)⟩,
    ⟨some 30, none, .v fun s => loadF false 1 (s.get 29)⟩,
    ⟨some 31, none, .v fun s => some (s.get 1)⟩,
    ⟨some 32, none, .v fun s => some (s.get 5)⟩,
    ⟨some 33, none, .v fun s => idxSl 1 (s.get 31) (s.get 32)⟩,
    ⟨some 34, none, .v fun s => loadF false 1 (s.get 33)⟩,
    ⟨some 35, none, .v fun s => binA prog .lss 3 (s.get 30) (s.get 34)⟩,
    ⟨some 4, none, .v fun s => some (s.get 35)⟩] K s := (den_regD hf r5_draw K s).trans (by kernel_rfl)
theorem i1e_eq (K : List Item) (s : St) : den prog ann 67 (.code i1e :: K) s = den prog ann 67 (K) s := den_flat hf (l := []) (by kernel_rfl) K s
theorem r3_eq (K : List Item) (s : St) : den prog ann 67 (.code r3 :: K) s = mreg prog ann 67 (some [0, 1, 5]) [] none [] [
    ⟨some 16, none, .v fun s => some (s.get 5)⟩,
    ⟨some 17, none, .v fun s => binA prog .add 3 (s.get 16) (.int .i64 1)⟩,
    ⟨some 5, none, .v fun s => some (s.get 17)⟩] K s := (den_reg hf _ K s).trans (by kernel_rfl)
theorem r6_eq (K : List Item) (s : St) : den prog ann 67 (.code r6 :: K) s = mreg prog ann 67 (some [0, 1]) [] none [] [
    ⟨some 36, none, .v fun s => some (s.get 0)⟩,
    ⟨some 37, none, .v fun s => lenSl (s.get 36)⟩,
    ⟨some 38, none, .v fun s => some (s.get 1)⟩,
    ⟨some 39, none, .v fun s => lenSl (s.get 38)⟩,
    ⟨some 40, none, .v fun s => binA prog .lss 3 (s.get 37) (s.get 39)⟩,
    ⟨some 4, none, .v fun s => some (s.get 40)⟩] K s := (den_reg hf _ K s).trans (by kernel_rfl)
theorem ret_eq (K : List Item) (s : St) : den prog ann 67 (.code .ret :: K) s = finM true [fun s => some (s.get 4)] s := (den_ret hf K s).trans (by kernel_rfl)
theorem nil_eq (s : St) : den prog ann 67 [] s = finM true [fun s => some (s.get 4)] s := (den_nil hf s).trans (by kernel_rfl)
theorem inBlock_eq (id : Nat) (K : List Item) (s : St) : den prog ann 67 (.inBlock id :: K) s = den prog ann 67 K s := den_inBlock hf id K s
theorem exit_eq (id : Nat) (K : List Item) (s : St) : den prog ann 67 (.code (.exit id) :: K) s = exitV prog ann 67 (exitTo id K) s := den_exitV hf id K s
theorem call_eq (v0 v1 : AV) (m : Mem) (h : closedL [v0, v1] = true) : denC prog ann 67 [v0, v1] m = (den prog ann 67 [.code b] ⟨[(0, v0), (1, v1)], 41, Mem.empty⟩).bind fun r => some (r.1, m) := (denC_pure hf (b := b) (by kernel_rfl) (by kernel_rfl) (by kernel_rfl) h m).trans (by kernel_rfl)
theorem pure_eq : (ann 67).pure = true := by kernel_rfl
attribute [simp] b_eq r0_eq r1_eq k0_eq l0_eq r2_eq i0_eq i0t_eq i0e_eq k1_eq r4_eq i1_eq i1t_eq r5_eq i1e_eq r3_eq r6_eq ret_eq nil_eq inBlock_eq exit_eq pure_eq
end r01_Before

namespace r09_in
/-- pommel/pommelref09.in -/
noncomputable def b : Code := (Try.f64.body).getD .skip
theorem hf : prog.funcs[64]? = some Try.f64 := by kernel_rfl
noncomputable def r0 : Code := findReg b 0
noncomputable def r1 : Code := findReg b 1
theorem b_eq (K : List Item) (s : St) : den prog ann 64 (.code b :: K) s = den prog ann 64 (.code r0 :: .code r1 :: .code .ret :: K) s := den_flat hf (l := [r0, r1, .ret]) (by kernel_rfl) K s
theorem r0_eq (K : List Item) (s : St) : den prog ann 64 (.code r0 :: K) s = mreg prog ann 64 none [] none [] [
    ⟨some 6, none, .v fun s => some (.bool false)⟩] K s := (den_reg hf _ K s).trans (by kernel_rfl)
theorem r1_eq (K : List Item) (s : St) : den prog ann 64 (.code r1 :: K) s = mreg prog ann 64 none [] none [] [
    ⟨some 7, none, .v fun s => some (s.get 0)⟩,
    ⟨some 8, none, .v fun s => some (s.get 1)⟩,
    ⟨some 9, none, .v fun s => binA prog .geq 3 (s.get 7) (s.get 8)⟩,
    ⟨some 10, none, .v fun s => some (s.get 9)⟩,
    ⟨some 11, some (10, true), .v fun s => some (s.get 0)⟩,
    ⟨some 12, some (10, true), .v fun s => some (s.get 2)⟩,
    ⟨some 13, some (10, true), .v fun s => binA prog .leq 3 (s.get 11) (s.get 12)⟩,
    ⟨some 14, none, .v fun s => pickA (s.get 10) (s.get 13) (.bool false)⟩,
    ⟨some 6, none, .v fun s => some (s.get 14)⟩] K s := (den_reg hf _ K s).trans (by kernel_rfl)
theorem ret_eq (K : List Item) (s : St) : den prog ann 64 (.code .ret :: K) s = finM true [fun s => some (s.get 6)] s := (den_ret hf K s).trans (by kernel_rfl)
theorem nil_eq (s : St) : den prog ann 64 [] s = finM true [fun s => some (s.get 6)] s := (den_nil hf s).trans (by kernel_rfl)
theorem inBlock_eq (id : Nat) (K : List Item) (s : St) : den prog ann 64 (.inBlock id :: K) s = den prog ann 64 K s := den_inBlock hf id K s
theorem exit_eq (id : Nat) (K : List Item) (s : St) : den prog ann 64 (.code (.exit id) :: K) s = exitV prog ann 64 (exitTo id K) s := den_exitV hf id K s
theorem call_eq (v0 v1 v2 : AV) (m : Mem) (h : closedL [v0, v1, v2] = true) : denC prog ann 64 [v0, v1, v2] m = (den prog ann 64 [.code b] ⟨[(0, v0), (1, v1), (2, v2)], 15, Mem.empty⟩).bind fun r => some (r.1, m) := (denC_pure hf (b := b) (by kernel_rfl) (by kernel_rfl) (by kernel_rfl) h m).trans (by kernel_rfl)
theorem pure_eq : (ann 64).pure = true := by kernel_rfl
attribute [simp] b_eq r0_eq r1_eq ret_eq nil_eq inBlock_eq exit_eq pure_eq
end r09_in


namespace r09_Meet
/-- pommel/pommelref09.Meet -/
noncomputable def b : Code := (Try.f28.body).getD .skip
theorem hf : prog.funcs[28]? = some Try.f28 := by kernel_rfl
noncomputable def r0 : Code := findReg b 0
noncomputable def r1 : Code := findReg b 1
noncomputable def r2 : Code := findReg b 2
noncomputable def k0 : Code := findBlk b 0
noncomputable def l0 : Code := loopOf k0
noncomputable def L0 (x0 x1 x5 x6 : AV) (m : Mem) (K : List Item) : Option Res := den prog ann 28 (.code l0 :: .inLoop l0 :: .inBlock 0 :: K) ⟨[(0, x0), (1, x1), (5, x5), (6, x6)], 27, m⟩
noncomputable def r3 : Code := findReg b 3
noncomputable def i0 : Code := findCond b 0
noncomputable def i0t : Code := thenOf i0
noncomputable def i0e : Code := elseOf i0
noncomputable def k1 : Code := findBlk b 1
noncomputable def r5 : Code := findReg b 5
noncomputable def r4 : Code := findReg b 4
noncomputable def r6 : Code := findReg b 6
theorem b_eq (K : List Item) (s : St) : den prog ann 28 (.code b :: K) s = den prog ann 28 (.code r0 :: .code r1 :: .code r2 :: .code k0 :: .code r6 :: .code .ret :: K) s := den_flat hf (l := [r0, r1, r2, k0, r6, .ret]) (by kernel_rfl) K s
theorem r0_eq (K : List Item) (s : St) : den prog ann 28 (.code r0 :: K) s = mreg prog ann 28 none [] none [] [
    ⟨some 4, none, .v fun s => some (.nils)⟩] K s := (den_reg hf _ K s).trans (by kernel_rfl)
theorem r1_eq (K : List Item) (s : St) : den prog ann 28 (.code r1 :: K) s = mreg prog ann 28 none [] none [] [
    ⟨some 7, none, .w false none fun s => bslM s.m 0 (bslA 1 0 [.int .i64 0] [])⟩,
    ⟨some 5, none, .v fun s => some (s.get 7)⟩] K s := (den_reg hf _ K s).trans (by kernel_rfl)
theorem r2_eq (K : List Item) (s : St) : den prog ann 28 (.code r2 :: K) s = mreg prog ann 28 none [] none [] [
    ⟨some 6, none, .v fun s => some (.int .i64 0)⟩] K s := (den_reg hf _ K s).trans (by kernel_rfl)
theorem k0_eq (K : List Item) (t : List (Nat × AV)) (m : Mem) : den prog ann 28 (.code k0 :: K) ⟨t, 27, m⟩ = L0 (get t 0) (get t 1) (get t 5) (get t 6) m K := den_loop_enter hf (b := l0) (id := 3) (l := [0, 1, 5, 6]) (by kernel_rfl) (by kernel_rfl) (by kernel_rfl) K _
theorem l0_eq (K : List Item) (t : List (Nat × AV)) (m : Mem) : den prog ann 28 (.inLoop l0 :: .inBlock 0 :: K) ⟨t, 27, m⟩ = L0 (get t 0) (get t 1) (get t 5) (get t 6) m K := den_loop_again hf (id := 3) (l := [0, 1, 5, 6]) (by kernel_rfl) (by kernel_rfl) (.inBlock 0 :: K) _
theorem L0_eq (x0 x1 x5 x6 : AV) (m : Mem) (K : List Item) : L0 x0 x1 x5 x6 m K = den prog ann 28 (.code r3 :: .code i0 :: .code k1 :: .code r4 :: .inLoop l0 :: .inBlock 0 :: K) ⟨[(0, x0), (1, x1), (5, x5), (6, x6)], 27, m⟩ := den_flat hf (l := [r3, i0, k1, r4]) (by kernel_rfl) _ _
theorem r3_eq (K : List Item) (s : St) : den prog ann 28 (.code r3 :: K) s = mreg prog ann 28 (some [0, 1, 5, 6]) [] none [] [
    ⟨some 8, none, .v fun s => some (s.get 6)⟩,
    ⟨some 9, none, .v fun s => some (s.get 0)⟩,
    ⟨some 10, none, .v fun s => lenSl (s.get 9)⟩,
    ⟨some 11, none, .v fun s => binA prog .lss 3 (s.get 8) (s.get 10)⟩] K s := (den_reg hf _ K s).trans (by kernel_rfl)
theorem i0_eq (K : List Item) (s : St) : den prog ann 28 (.code i0 :: K) s = ifV prog ann 28 11 i0t i0e K s (s.get 11) := den_if hf (by kernel_rfl) K s
theorem i0t_eq (K : List Item) (s : St) : den prog ann 28 (.code i0t :: K) s = den prog ann 28 (K) s := den_flat hf (l := []) (by kernel_rfl) K s
theorem i0e_eq (K : List Item) (s : St) : den prog ann 28 (.code i0e :: K) s = den prog ann 28 (.code (.exit 0) :: K) s := den_flat hf (l := [(.exit 0)]) (by kernel_rfl) K s
theorem k1_eq (K : List Item) (s : St) : den prog ann 28 (.code k1 :: K) s = den prog ann 28 (.code r5 :: .inBlock 1 :: K) s := den_blk hf (b := blkOf k1) (l := [r5]) (by kernel_rfl) (by kernel_rfl) K s
theorem r5_draw : drawOk (fun g => (ann g).pure) (modeOf (ann 28) (idOf r5)) (frzOf (ann 28) (idOf r5)) (opsOf r5) = true := drawOk_of (an := [0, 0, 0, 6, 14, 0, 0, 96, 224, 510, 1022, 2047, 4095]) (by kernel_rfl) (by kernel_rfl)
theorem r5_eq (K : List Item) (s : St) : den prog ann 28 (.code r5 :: K) s = mreg prog ann 28 none [] (some 13) [] [
    ⟨some 14, none, .v fun s => some (s.get 5)⟩,
    ⟨some 15, none, .v fun s => some (s.get 0)⟩,
    ⟨some 16, none, .v fun s => some (s.get 6)⟩,
    ⟨some 17, none, .v fun s => idxSl 1 (s.get 15) (s.get 16)⟩,
    ⟨some 18, none, .v fun s => loadF false 1 (s.get 17)⟩,
    ⟨some 19, none, .v fun s => some (s.get 1)⟩,
    ⟨some 20, none, .v fun s => some (s.get 6)⟩,
    ⟨some 21, none, .v fun s => idxSl 1 (s.get 19) (s.get 20)⟩,
    ⟨some 22, none, .v fun s => loadF false 1 (s.get 21)⟩,
    ⟨some 23, none, .v fun s => foldA min2A (s.get 18) [(s.get 22)]⟩,
    ⟨some 24, none, .v fun s => bslF 1 (bslA 1 1 [.int .i64 0] [(0, (s.get 23))])⟩,
    ⟨some 25, none, .w false (some 11) fun s => appendA 1 8 s.m (s.get 14) (s.get 24)⟩,
    ⟨some 5, none, .v fun s => some (s.get 25)⟩] K s := (den_regD hf r5_draw K s).trans (by kernel_rfl)
theorem r4_eq (K : List Item) (s : St) : den prog ann 28 (.code r4 :: K) s = mreg prog ann 28 (some [0, 1, 5, 6]) [] none [] [
    ⟨some 12, none, .v fun s => some (s.get 6)⟩,
    ⟨some 13, none, .v fun s => binA prog .add 3 (s.get 12) (.int .i64 1)⟩,
    ⟨some 6, none, .v fun s => some (s.get 13)⟩] K s := (den_reg hf _ K s).trans (by kernel_rfl)
theorem r6_eq (K : List Item) (s : St) : den prog ann 28 (.code r6 :: K) s = mreg prog ann 28 (some [5]) [] none [] [
    ⟨some 26, none, .v fun s => some (s.get 5)⟩,
    ⟨some 4, none, .v fun s => some (s.get 26)⟩] K s := (den_reg hf _ K s).trans (by kernel_rfl)
theorem ret_eq (K : List Item) (s : St) : den prog ann 28 (.code .ret :: K) s = finM true [fun s => some (s.get 4)] s := (den_ret hf K s).trans (by kernel_rfl)
theorem nil_eq (s : St) : den prog ann 28 [] s = finM true [fun s => some (s.get 4)] s := (den_nil hf s).trans (by kernel_rfl)
theorem inBlock_eq (id : Nat) (K : List Item) (s : St) : den prog ann 28 (.inBlock id :: K) s = den prog ann 28 K s := den_inBlock hf id K s
theorem exit_eq (id : Nat) (K : List Item) (s : St) : den prog ann 28 (.code (.exit id) :: K) s = exitV prog ann 28 (exitTo id K) s := den_exitV hf id K s
theorem call_eq (v0 v1 : AV) (m : Mem) (h : closedL [v0, v1] = true) : denC prog ann 28 [v0, v1] m = (den prog ann 28 [.code b] ⟨[(0, v0), (1, v1)], 27, Mem.empty⟩).bind fun r => some (r.1, m) := (denC_pure hf (b := b) (by kernel_rfl) (by kernel_rfl) (by kernel_rfl) h m).trans (by kernel_rfl)
theorem pure_eq : (ann 28).pure = true := by kernel_rfl
attribute [simp] b_eq r0_eq r1_eq r2_eq k0_eq l0_eq r3_eq i0_eq i0t_eq i0e_eq k1_eq r5_eq r4_eq r6_eq ret_eq nil_eq inBlock_eq exit_eq pure_eq
end r09_Meet


namespace r09_Below
/-- pommel/pommelref09.Below -/
noncomputable def b : Code := (Try.f31.body).getD .skip
theorem hf : prog.funcs[31]? = some Try.f31 := by kernel_rfl
noncomputable def r0 : Code := findReg b 0
noncomputable def r1 : Code := findReg b 1
theorem b_eq (K : List Item) (s : St) : den prog ann 31 (.code b :: K) s = den prog ann 31 (.code r0 :: .code r1 :: .code .ret :: K) s := den_flat hf (l := [r0, r1, .ret]) (by kernel_rfl) K s
theorem r0_eq (K : List Item) (s : St) : den prog ann 31 (.code r0 :: K) s = mreg prog ann 31 none [] none [] [
    ⟨some 4, none, .v fun s => some (.bool false)⟩] K s := (den_reg hf _ K s).trans (by kernel_rfl)
theorem r1_eq (K : List Item) (s : St) : den prog ann 31 (.code r1 :: K) s = mreg prog ann 31 none [] none [] [
    ⟨some 5, none, .v fun s => some (s.get 0)⟩,
    ⟨some 6, none, .v fun s => some (s.get 1)⟩,
    ⟨some 7, none, .c 0 (fun s => (.fn 28 [] [])) fun s => [(s.get 5), (s.get 6)]⟩,
    ⟨some 8, none, .v fun s => some (s.get 0)⟩,
    ⟨some 9, none, .c 0 (fun s => (.fn 21 [] [])) fun s => [(s.get 7), (s.get 8)]⟩,
    ⟨some 4, none, .v fun s => some (s.get 9)⟩] K s := (den_reg hf _ K s).trans (by kernel_rfl)
theorem ret_eq (K : List Item) (s : St) : den prog ann 31 (.code .ret :: K) s = finM true [fun s => some (s.get 4)] s := (den_ret hf K s).trans (by kernel_rfl)
theorem nil_eq (s : St) : den prog ann 31 [] s = finM true [fun s => some (s.get 4)] s := (den_nil hf s).trans (by kernel_rfl)
theorem inBlock_eq (id : Nat) (K : List Item) (s : St) : den prog ann 31 (.inBlock id :: K) s = den prog ann 31 K s := den_inBlock hf id K s
theorem exit_eq (id : Nat) (K : List Item) (s : St) : den prog ann 31 (.code (.exit id) :: K) s = exitV prog ann 31 (exitTo id K) s := den_exitV hf id K s
theorem call_eq (v0 v1 : AV) (m : Mem) (h : closedL [v0, v1] = true) : denC prog ann 31 [v0, v1] m = (den prog ann 31 [.code b] ⟨[(0, v0), (1, v1)], 10, Mem.empty⟩).bind fun r => some (r.1, m) := (denC_pure hf (b := b) (by kernel_rfl) (by kernel_rfl) (by kernel_rfl) h m).trans (by kernel_rfl)
theorem pure_eq : (ann 31).pure = true := by kernel_rfl
attribute [simp] b_eq r0_eq r1_eq ret_eq nil_eq inBlock_eq exit_eq pure_eq
end r09_Below

namespace r09_Consistent
/-- pommel/pommelref09.Consistent -/
noncomputable def b : Code := (Try.f66.body).getD .skip
theorem hf : prog.funcs[66]? = some Try.f66 := by kernel_rfl
noncomputable def r0 : Code := findReg b 0
noncomputable def r1 : Code := findReg b 1
noncomputable def k0 : Code := findBlk b 0
noncomputable def l0 : Code := loopOf k0
noncomputable def L0 (x1 x2 x5 : AV) (m : Mem) (K : List Item) : Option Res := den prog ann 66 (.code l0 :: .inLoop l0 :: .inBlock 0 :: K) ⟨[(1, x1), (2, x2), (5, x5)], 37, m⟩
noncomputable def r2 : Code := findReg b 2
noncomputable def i0 : Code := findCond b 0
noncomputable def i0t : Code := thenOf i0
noncomputable def i0e : Code := elseOf i0
noncomputable def k1 : Code := findBlk b 1
noncomputable def r4 : Code := findReg b 4
noncomputable def r5 : Code := findReg b 5
noncomputable def i1 : Code := findCond b 1
noncomputable def i1t : Code := thenOf i1
noncomputable def i1e : Code := elseOf i1
noncomputable def r6 : Code := findReg b 6
noncomputable def r3 : Code := findReg b 3
noncomputable def r7 : Code := findReg b 7
theorem b_eq (K : List Item) (s : St) : den prog ann 66 (.code b :: K) s = den prog ann 66 (.code r0 :: .code r1 :: .code k0 :: .code r7 :: .code .ret :: K) s := den_flat hf (l := [r0, r1, k0, r7, .ret]) (by kernel_rfl) K s
theorem r0_eq (K : List Item) (s : St) : den prog ann 66 (.code r0 :: K) s = mreg prog ann 66 none [] none [] [
    ⟨some 2, none, .v fun s => frozenPtr (s.get 0)⟩,
    ⟨some 4, none, .v fun s => some (.bool false)⟩] K s := (den_reg hf _ K s).trans (by kernel_rfl)
theorem r1_eq (K : List Item) (s : St) : den prog ann 66 (.code r1 :: K) s = mreg prog ann 66 none [] none [] [
    ⟨some 5, none, .v fun s => some (.int .i64 0)⟩] K s := (den_reg hf _ K s).trans (by kernel_rfl)
theorem k0_eq (K : List Item) (t : List (Nat × AV)) (m : Mem) : den prog ann 66 (.code k0 :: K) ⟨t, 37, m⟩ = L0 (get t 1) (get t 2) (get t 5) m K := den_loop_enter hf (b := l0) (id := 2) (l := [1, 2, 5]) (by kernel_rfl) (by kernel_rfl) (by kernel_rfl) K _
theorem l0_eq (K : List Item) (t : List (Nat × AV)) (m : Mem) : den prog ann 66 (.inLoop l0 :: .inBlock 0 :: K) ⟨t, 37, m⟩ = L0 (get t 1) (get t 2) (get t 5) m K := den_loop_again hf (id := 2) (l := [1, 2, 5]) (by kernel_rfl) (by kernel_rfl) (.inBlock 0 :: K) _
theorem L0_eq (x1 x2 x5 : AV) (m : Mem) (K : List Item) : L0 x1 x2 x5 m K = den prog ann 66 (.code r2 :: .code i0 :: .code k1 :: .code r3 :: .inLoop l0 :: .inBlock 0 :: K) ⟨[(1, x1), (2, x2), (5, x5)], 37, m⟩ := den_flat hf (l := [r2, i0, k1, r3]) (by kernel_rfl) _ _
theorem r2_eq (K : List Item) (s : St) : den prog ann 66 (.code r2 :: K) s = mreg prog ann 66 (some [1, 2, 5]) [] none [] [
    ⟨some 7, none, .v fun s => some (s.get 5)⟩,
    ⟨some 8, none, .v fun s => fieldA 1 (s.get 2)⟩,
    ⟨some 9, none, .v fun s => loadF false 1 (s.get 8)⟩,
    ⟨some 10, none, .v fun s => lenSl (s.get 9)⟩,
    ⟨some 11, none, .v fun s => binA prog .lss 3 (s.get 7) (s.get 10)⟩] K s := (den_reg hf _ K s).trans (by kernel_rfl)
theorem i0_eq (K : List Item) (s : St) : den prog ann 66 (.code i0 :: K) s = ifV prog ann 66 11 i0t i0e K s (s.get 11) := den_if hf (by kernel_rfl) K s
theorem i0t_eq (K : List Item) (s : St) : den prog ann 66 (.code i0t :: K) s = den prog ann 66 (K) s := den_flat hf (l := []) (by kernel_rfl) K s
theorem i0e_eq (K : List Item) (s : St) : den prog ann 66 (.code i0e :: K) s = den prog ann 66 (.code (.exit 0) :: K) s := den_flat hf (l := [(.exit 0)]) (by kernel_rfl) K s
theorem k1_eq (K : List Item) (s : St) : den prog ann 66 (.code k1 :: K) s = den prog ann 66 (.code r4 :: .code r5 :: .code i1 :: .inBlock 1 :: K) s := den_blk hf (b := blkOf k1) (l := [r4, r5, i1]) (by kernel_rfl) (by kernel_rfl) K s
theorem r4_eq (K : List Item) (s : St) : den prog ann 66 (.code r4 :: K) s = mreg prog ann 66 none [] none [6] [
    ⟨some 14, none, .v fun s => fieldA 1 (s.get 2)⟩,
    ⟨some 15, none, .v fun s => loadF false 1 (s.get 14)⟩,
    ⟨some 16, none, .v fun s => some (s.get 5)⟩,
    ⟨some 17, none, .v fun s => idxSl 4 (s.get 15) (s.get 16)⟩,
    ⟨some 18, none, .v fun s => loadF true 4 (s.get 17)⟩,
    ⟨some 6, none, .w false none fun s => newPtr s.m [.int .i64 0, .int .i64 0, .int .i64 0, .int .i64 0]⟩,
    ⟨none, none, .w false none fun s => stA true 4 s.m (s.get 6) (s.get 18)⟩] K s := (den_reg hf _ K s).trans (by kernel_rfl)
theorem r5_draw : drawOk (fun g => (ann g).pure) (modeOf (ann 66) (idOf r5)) (frzOf (ann 66) (idOf r5)) (opsOf r5) = true := drawOk_of (an := [0, 0, 2, 7, 15, 0, 32, 127, 255, 511, 511, 1535, 4095, 8191, 511, 16895, 65535, 131071]) (by kernel_rfl) (by kernel_rfl)
theorem r5_eq (K : List Item) (s : St) : den prog ann 66 (.code r5 :: K) s = mreg prog ann 66 none [] (some 18) [] [
    ⟨some 19, none, .v fun s => some (s.get 1)⟩,
    ⟨some 20, none, .v fun s => fieldA 2 (s.get 6)⟩,
    ⟨some 21, none, .v fun s => loadF false 1 (s.get 20)⟩,
    ⟨some 22, none, .v fun s => idxSl 1 (s.get 19) (s.get 21)⟩,
    ⟨some 23, none, .v fun s => loadF false 1 (s.get 22)⟩,
    ⟨some 24, none, .v fun s => fieldA 3 (s.get 6)⟩,
    ⟨some 25, none, .v fun s => loadF false 1 (s.get 24)⟩,
    ⟨some 26, none, .v fun s => binA prog .geq 3 (s.get 23) (s.get 25)⟩,
    ⟨some 27, none, .v fun s => some (s.get 26)⟩,
    ⟨some 28, some (27, true), .v fun s => some (s.get 1)⟩,
    ⟨some 29, some (27, true), .v fun s => fieldA 0 (s.get 6)⟩,
    ⟨some 30, some (27, true), .v fun s => loadF false 1 (s.get 29)⟩,
    ⟨some 31, some (27, true), .v fun s => idxSl 1 (s.get 28) (s.get 30)⟩,
    ⟨some 32, some (27, true), .v fun s => loadF false 1 (s.get 31)⟩,
    ⟨some 33, some (27, true), .v fun s => fieldA 1 (s.get 6)⟩,
    ⟨some 34, some (27, true), .v fun s => loadF false 1 (s.get 33)⟩,
    ⟨some 35, some (27, true), .v fun s => binA prog .lss 3 (s.get 32) (s.get 34)⟩,
    ⟨some 36, none, .v fun s => pickA (s.get 27) (s.get 35) (.bool false)⟩] K s := (den_regD hf r5_draw K s).trans (by kernel_rfl)
theorem i1_eq (K : List Item) (s : St) : den prog ann 66 (.code i1 :: K) s = ifV prog ann 66 36 i1t i1e K s (s.get 36) := den_if hf (by kernel_rfl) K s
theorem i1t_eq (K : List Item) (s : St) : den prog ann 66 (.code i1t :: K) s = den prog ann 66 (.code r6 :: .code .ret :: K) s := den_flat hf (l := [r6, .ret]) (by kernel_rfl) K s
theorem r6_eq (K : List Item) (s : St) : den prog ann 66 (.code r6 :: K) s = mreg prog ann 66 none [] none [] [
    ⟨some 4, none, .v fun s => some (.bool false)⟩] K s := (den_reg hf _ K s).trans (by kernel_rfl)
theorem i1e_eq (K : List Item) (s : St) : den prog ann 66 (.code i1e :: K) s = den prog ann 66 (K) s := den_flat hf (l := []) (by kernel_rfl) K s
theorem r3_eq (K : List Item) (s : St) : den prog ann 66 (.code r3 :: K) s = mreg prog ann 66 (some [1, 2, 5]) [] none [] [
    ⟨some 12, none, .v fun s => some (s.get 5)⟩,
    ⟨some 13, none, .v fun s => binA prog .add 3 (s.get 12) (.int .i64 1)⟩,
    ⟨some 5, none, .v fun s => some (s.get 13)⟩] K s := (den_reg hf _ K s).trans (by kernel_rfl)
theorem r7_eq (K : List Item) (s : St) : den prog ann 66 (.code r7 :: K) s = mreg prog ann 66 (some []) [] none [] [
    ⟨some 4, none, .v fun s => some (.bool true)⟩] K s := (den_reg hf _ K s).trans (by kernel_rfl)
theorem ret_eq (K : List Item) (s : St) : den prog ann 66 (.code .ret :: K) s = finM true [fun s => some (s.get 4)] s := (den_ret hf K s).trans (by kernel_rfl)
theorem nil_eq (s : St) : den prog ann 66 [] s = finM true [fun s => some (s.get 4)] s := (den_nil hf s).trans (by kernel_rfl)
theorem inBlock_eq (id : Nat) (K : List Item) (s : St) : den prog ann 66 (.inBlock id :: K) s = den prog ann 66 K s := den_inBlock hf id K s
theorem exit_eq (id : Nat) (K : List Item) (s : St) : den prog ann 66 (.code (.exit id) :: K) s = exitV prog ann 66 (exitTo id K) s := den_exitV hf id K s
theorem call_eq (v0 v1 : AV) (m : Mem) (h : closedL [v0, v1] = true) : denC prog ann 66 [v0, v1] m = (den prog ann 66 [.code b] ⟨[(0, v0), (1, v1)], 37, Mem.empty⟩).bind fun r => some (r.1, m) := (denC_pure hf (b := b) (by kernel_rfl) (by kernel_rfl) (by kernel_rfl) h m).trans (by kernel_rfl)
theorem pure_eq : (ann 66).pure = true := by kernel_rfl
attribute [simp] b_eq r0_eq r1_eq k0_eq l0_eq r2_eq i0_eq i0t_eq i0e_eq k1_eq r4_eq r5_eq i1_eq i1t_eq r6_eq i1e_eq r3_eq r7_eq ret_eq nil_eq inBlock_eq exit_eq pure_eq
end r09_Consistent

namespace r09_ready
/-- pommel/pommelref09.ready -/
noncomputable def b : Code := (Try.f65.body).getD .skip
theorem hf : prog.funcs[65]? = some Try.f65 := by kernel_rfl
noncomputable def r0 : Code := findReg b 0
noncomputable def r1 : Code := findReg b 1
noncomputable def k0 : Code := findBlk b 0
noncomputable def l0 : Code := loopOf k0
noncomputable def L0 (x1 x2 x3 x7 : AV) (m : Mem) (K : List Item) : Option Res := den prog ann 65 (.code l0 :: .inLoop l0 :: .inBlock 0 :: K) ⟨[(1, x1), (2, x2), (3, x3), (7, x7)], 45, m⟩
noncomputable def r2 : Code := findReg b 2
noncomputable def i0 : Code := findCond b 0
noncomputable def i0t : Code := thenOf i0
noncomputable def i0e : Code := elseOf i0
noncomputable def k1 : Code := findBlk b 1
noncomputable def r4 : Code := findReg b 4
noncomputable def r5 : Code := findReg b 5
noncomputable def i1 : Code := findCond b 1
noncomputable def i1t : Code := thenOf i1
noncomputable def i1e : Code := elseOf i1
noncomputable def r6 : Code := findReg b 6
noncomputable def r3 : Code := findReg b 3
noncomputable def r7 : Code := findReg b 7
theorem b_eq (K : List Item) (s : St) : den prog ann 65 (.code b :: K) s = den prog ann 65 (.code r0 :: .code r1 :: .code k0 :: .code r7 :: .code .ret :: K) s := den_flat hf (l := [r0, r1, k0, r7, .ret]) (by kernel_rfl) K s
theorem r0_eq (K : List Item) (s : St) : den prog ann 65 (.code r0 :: K) s = mreg prog ann 65 none [] none [] [
    ⟨some 3, none, .v fun s => frozenPtr (s.get 0)⟩,
    ⟨some 6, none, .v fun s => some (.bool false)⟩] K s := (den_reg hf _ K s).trans (by kernel_rfl)
theorem r1_eq (K : List Item) (s : St) : den prog ann 65 (.code r1 :: K) s = mreg prog ann 65 none [] none [] [
    ⟨some 7, none, .v fun s => some (.int .i64 0)⟩] K s := (den_reg hf _ K s).trans (by kernel_rfl)
theorem k0_eq (K : List Item) (t : List (Nat × AV)) (m : Mem) : den prog ann 65 (.code k0 :: K) ⟨t, 45, m⟩ = L0 (get t 1) (get t 2) (get t 3) (get t 7) m K := den_loop_enter hf (b := l0) (id := 2) (l := [1, 2, 3, 7]) (by kernel_rfl) (by kernel_rfl) (by kernel_rfl) K _
theorem l0_eq (K : List Item) (t : List (Nat × AV)) (m : Mem) : den prog ann 65 (.inLoop l0 :: .inBlock 0 :: K) ⟨t, 45, m⟩ = L0 (get t 1) (get t 2) (get t 3) (get t 7) m K := den_loop_again hf (id := 2) (l := [1, 2, 3, 7]) (by kernel_rfl) (by kernel_rfl) (.inBlock 0 :: K) _
theorem L0_eq (x1 x2 x3 x7 : AV) (m : Mem) (K : List Item) : L0 x1 x2 x3 x7 m K = den prog ann 65 (.code r2 :: .code i0 :: .code k1 :: .code r3 :: .inLoop l0 :: .inBlock 0 :: K) ⟨[(1, x1), (2, x2), (3, x3), (7, x7)], 45, m⟩ := den_flat hf (l := [r2, i0, k1, r3]) (by kernel_rfl) _ _
theorem r2_eq (K : List Item) (s : St) : den prog ann 65 (.code r2 :: K) s = mreg prog ann 65 (some [1, 2, 3, 7]) [] none [] [
    ⟨some 9, none, .v fun s => some (s.get 7)⟩,
    ⟨some 10, none, .v fun s => fieldA 1 (s.get 3)⟩,
    ⟨some 11, none, .v fun s => loadF false 1 (s.get 10)⟩,
    ⟨some 12, none, .v fun s => lenSl (s.get 11)⟩,
    ⟨some 13, none, .v fun s => binA prog .lss 3 (s.get 9) (s.get 12)⟩] K s := (den_reg hf _ K s).trans (by kernel_rfl)
theorem i0_eq (K : List Item) (s : St) : den prog ann 65 (.code i0 :: K) s = ifV prog ann 65 13 i0t i0e K s (s.get 13) := den_if hf (by kernel_rfl) K s
theorem i0t_eq (K : List Item) (s : St) : den prog ann 65 (.code i0t :: K) s = den prog ann 65 (K) s := den_flat hf (l := []) (by kernel_rfl) K s
theorem i0e_eq (K : List Item) (s : St) : den prog ann 65 (.code i0e :: K) s = den prog ann 65 (.code (.exit 0) :: K) s := den_flat hf (l := [(.exit 0)]) (by kernel_rfl) K s
theorem k1_eq (K : List Item) (s : St) : den prog ann 65 (.code k1 :: K) s = den prog ann 65 (.code r4 :: .code r5 :: .code i1 :: .inBlock 1 :: K) s := den_blk hf (b := blkOf k1) (l := [r4, r5, i1]) (by kernel_rfl) (by kernel_rfl) K s
theorem r4_eq (K : List Item) (s : St) : den prog ann 65 (.code r4 :: K) s = mreg prog ann 65 none [] none [8] [
    ⟨some 16, none, .v fun s => fieldA 1 (s.get 3)⟩,
    ⟨some 17, none, .v fun s => loadF false 1 (s.get 16)⟩,
    ⟨some 18, none, .v fun s => some (s.get 7)⟩,
    ⟨some 19, none, .v fun s => idxSl 4 (s.get 17) (s.get 18)⟩,
    ⟨some 20, none, .v fun s => loadF true 4 (s.get 19)⟩,
    ⟨some 8, none, .w false none fun s => newPtr s.m [.int .i64 0, .int .i64 0, .int .i64 0, .int .i64 0]⟩,
    ⟨none, none, .w false none fun s => stA true 4 s.m (s.get 8) (s.get 20)⟩] K s := (den_reg hf _ K s).trans (by kernel_rfl)
theorem r5_draw : drawOk (fun g => (ann g).pure) (modeOf (ann 65) (idOf r5)) (frzOf (ann 65) (idOf r5)) (opsOf r5) = true := drawOk_of (an := [0, 1, 0, 7, 15, 31, 63, 31, 31, 415, 927, 1951, 4095, 8191, 16383, 32767, 32767, 98303, 262143, 524287, 32767, 1081343, 4194303, 8388607]) (by kernel_rfl) (by kernel_rfl)
theorem r5_eq (K : List Item) (s : St) : den prog ann 65 (.code r5 :: K) s = mreg prog ann 65 none [] (some 24) [] [
    ⟨some 21, none, .v fun s => fieldA 2 (s.get 8)⟩,
    ⟨some 22, none, .v fun s => loadF false 1 (s.get 21)⟩,
    ⟨some 23, none, .v fun s => some (s.get 2)⟩,
    ⟨some 24, none, .v fun s => binA prog .eql 3 (s.get 22) (s.get 23)⟩,
    ⟨some 25, none, .v fun s => some (s.get 24)⟩,
    ⟨some 26, some (25, true), .v fun s => fieldA 3 (s.get 8)⟩,
    ⟨some 27, some (25, true), .v fun s => loadF false 1 (s.get 26)⟩,
    ⟨some 28, some (25, true), .v fun s => some (s.get 1)⟩,
    ⟨some 29, some (25, true), .v fun s => some (s.get 2)⟩,
    ⟨some 30, some (25, true), .v fun s => idxSl 1 (s.get 28) (s.get 29)⟩,
    ⟨some 31, some (25, true), .v fun s => loadF false 1 (s.get 30)⟩,
    ⟨some 32, some (25, true), .v fun s => binA prog .add 3 (s.get 31) (.int .i64 1)⟩,
    ⟨some 33, some (25, true), .v fun s => binA prog .eql 3 (s.get 27) (s.get 32)⟩,
    ⟨some 34, none, .v fun s => pickA (s.get 25) (s.get 33) (.bool false)⟩,
    ⟨some 35, none, .v fun s => some (s.get 34)⟩,
    ⟨some 36, some (35, true), .v fun s => some (s.get 1)⟩,
    ⟨some 37, some (35, true), .v fun s => fieldA 0 (s.get 8)⟩,
    ⟨some 38, some (35, true), .v fun s => loadF false 1 (s.get 37)⟩,
    ⟨some 39, some (35, true), .v fun s => idxSl 1 (s.get 36) (s.get 38)⟩,
    ⟨some 40, some (35, true), .v fun s => loadF false 1 (s.get 39)⟩,
    ⟨some 41, some (35, true), .v fun s => fieldA 1 (s.get 8)⟩,
    ⟨some 42, some (35, true), .v fun s => loadF false 1 (s.get 41)⟩,
    ⟨some 43, some (35, true), .v fun s => binA prog .lss 3 (s.get 40) (s.get 42)⟩,
    ⟨some 44, none, .v fun s => pickA (s.get 35) (s.get 43) (.bool false)⟩] K s := (den_regD hf r5_draw K s).trans (by kernel_rfl)
theorem i1_eq (K : List Item) (s : St) : den prog ann 65 (.code i1 :: K) s = ifV prog ann 65 44 i1t i1e K s (s.get 44) := den_if hf (by kernel_rfl) K s
theorem i1t_eq (K : List Item) (s : St) : den prog ann 65 (.code i1t :: K) s = den prog ann 65 (.code r6 :: .code .ret :: K) s := den_flat hf (l := [r6, .ret]) (by kernel_rfl) K s
theorem r6_eq (K : List Item) (s : St) : den prog ann 65 (.code r6 :: K) s = mreg prog ann 65 none [] none [] [
    ⟨some 6, none, .v fun s => some (.bool false)⟩] K s := (den_reg hf _ K s).trans (by kernel_rfl)
theorem i1e_eq (K : List Item) (s : St) : den prog ann 65 (.code i1e :: K) s = den prog ann 65 (K) s := den_flat hf (l := []) (by kernel_rfl) K s
theorem r3_eq (K : List Item) (s : St) : den prog ann 65 (.code r3 :: K) s = mreg prog ann 65 (some [1, 2, 3, 7]) [] none [] [
    ⟨some 14, none, .v fun s => some (s.get 7)⟩,
    ⟨some 15, none, .v fun s => binA prog .add 3 (s.get 14) (.int .i64 1)⟩,
    ⟨some 7, none, .v fun s => some (s.get 15)⟩] K s := (den_reg hf _ K s).trans (by kernel_rfl)
theorem r7_eq (K : List Item) (s : St) : den prog ann 65 (.code r7 :: K) s = mreg prog ann 65 (some []) [] none [] [
    ⟨some 6, none, .v fun s => some (.bool true)⟩] K s := (den_reg hf _ K s).trans (by kernel_rfl)
theorem ret_eq (K : List Item) (s : St) : den prog ann 65 (.code .ret :: K) s = finM true [fun s => some (s.get 6)] s := (den_ret hf K s).trans (by kernel_rfl)
theorem nil_eq (s : St) : den prog ann 65 [] s = finM true [fun s => some (s.get 6)] s := (den_nil hf s).trans (by kernel_rfl)
theorem inBlock_eq (id : Nat) (K : List Item) (s : St) : den prog ann 65 (.inBlock id :: K) s = den prog ann 65 K s := den_inBlock hf id K s
theorem exit_eq (id : Nat) (K : List Item) (s : St) : den prog ann 65 (.code (.exit id) :: K) s = exitV prog ann 65 (exitTo id K) s := den_exitV hf id K s
theorem call_eq (v0 v1 v2 : AV) (m : Mem) (h : closedL [v0, v1, v2] = true) : denC prog ann 65 [v0, v1, v2] m = (den prog ann 65 [.code b] ⟨[(0, v0), (1, v1), (2, v2)], 45, Mem.empty⟩).bind fun r => some (r.1, m) := (denC_pure hf (b := b) (by kernel_rfl) (by kernel_rfl) (by kernel_rfl) h m).trans (by kernel_rfl)
theorem pure_eq : (ann 65).pure = true := by kernel_rfl
attribute [simp] b_eq r0_eq r1_eq k0_eq l0_eq r2_eq i0_eq i0t_eq i0e_eq k1_eq r4_eq r5_eq i1_eq i1t_eq r6_eq i1e_eq r3_eq r7_eq ret_eq nil_eq inBlock_eq exit_eq pure_eq
end r09_ready

namespace r09_Cuts
/-- pommel/pommelref09.Cuts -/
noncomputable def b : Code := (Try.f20.body).getD .skip
theorem hf : prog.funcs[20]? = some Try.f20 := by kernel_rfl
noncomputable def r0 : Code := findReg b 0
noncomputable def r1 : Code := findReg b 1
noncomputable def k0 : Code := findBlk b 0
noncomputable def l0 : Code := loopOf k0
noncomputable def L0 (x1 x3 x4 : AV) (m : Mem) (K : List Item) : Option Res := den prog ann 20 (.code l0 :: .inLoop l0 :: .inBlock 0 :: K) ⟨[(1, x1), (3, x3), (4, x4)], 51, m⟩
noncomputable def k1 : Code := findBlk b 1
noncomputable def r2 : Code := findReg b 2
noncomputable def i0 : Code := findCond b 0
noncomputable def i0t : Code := thenOf i0
noncomputable def i0e : Code := elseOf i0
noncomputable def r3 : Code := findReg b 3
noncomputable def r4 : Code := findReg b 4
noncomputable def k2 : Code := findBlk b 2
noncomputable def l2 : Code := loopOf k2
noncomputable def L2 (x1 x3 x4 x5 : AV) (m : Mem) (K : List Item) : Option Res := den prog ann 20 (.code l2 :: .inLoop l2 :: .inBlock 2 :: K) ⟨[(1, x1), (3, x3), (4, x4), (5, x5)], 51, m⟩
noncomputable def r5 : Code := findReg b 5
noncomputable def i1 : Code := findCond b 1
noncomputable def i1t : Code := thenOf i1
noncomputable def i1e : Code := elseOf i1
noncomputable def k3 : Code := findBlk b 3
noncomputable def r6 : Code := findReg b 6
noncomputable def r7 : Code := findReg b 7
noncomputable def r8 : Code := findReg b 8
noncomputable def i2 : Code := findCond b 2
noncomputable def i2t : Code := thenOf i2
noncomputable def i2e : Code := elseOf i2
noncomputable def r9 : Code := findReg b 9
noncomputable def r10 : Code := findReg b 10
theorem b_eq (K : List Item) (s : St) : den prog ann 20 (.code b :: K) s = den prog ann 20 (.code r0 :: .code r1 :: .code k0 :: K) s := den_flat hf (l := [r0, r1, k0]) (by kernel_rfl) K s
theorem r0_eq (K : List Item) (s : St) : den prog ann 20 (.code r0 :: K) s = mreg prog ann 20 none [] none [] [
    ⟨some 1, none, .v fun s => frozenPtr (s.get 0)⟩,
    ⟨some 2, none, .v fun s => some (.nils)⟩] K s := (den_reg hf _ K s).trans (by kernel_rfl)
theorem r1_draw : drawOk (fun g => (ann g).pure) (modeOf (ann 20) (idOf r1)) (frzOf (ann 20) (idOf r1)) (opsOf r1) = true := drawOk_of (an := [0, 0, 2, 6, 14, 1, 63]) (by kernel_rfl) (by kernel_rfl)
theorem r1_eq (K : List Item) (s : St) : den prog ann 20 (.code r1 :: K) s = mreg prog ann 20 none [] (some 7) [] [
    ⟨some 6, none, .w false (some 0) fun s => bslM s.m 0 (bslA 1 0 [.nils] [])⟩,
    ⟨some 7, none, .v fun s => fieldA 0 (s.get 1)⟩,
    ⟨some 8, none, .v fun s => loadF false 1 (s.get 7)⟩,
    ⟨some 9, none, .v fun s => lenSl (s.get 8)⟩,
    ⟨some 10, none, .w false (some 4) fun s => makeA 1 8 (.int .i64 0) s.m (s.get 9) (s.get 9)⟩,
    ⟨some 3, none, .v fun s => some (s.get 6)⟩,
    ⟨some 4, none, .v fun s => some (s.get 10)⟩] K s := (den_regD hf r1_draw K s).trans (by kernel_rfl)
theorem k0_eq (K : List Item) (t : List (Nat × AV)) (m : Mem) : den prog ann 20 (.code k0 :: K) ⟨t, 51, m⟩ = L0 (get t 1) (get t 3) (get t 4) m K := den_loop_enter hf (b := l0) (id := 2) (l := [1, 3, 4]) (by kernel_rfl) (by kernel_rfl) (by kernel_rfl) K _
theorem l0_eq (K : List Item) (t : List (Nat × AV)) (m : Mem) : den prog ann 20 (.inLoop l0 :: .inBlock 0 :: K) ⟨t, 51, m⟩ = L0 (get t 1) (get t 3) (get t 4) m K := den_loop_again hf (id := 2) (l := [1, 3, 4]) (by kernel_rfl) (by kernel_rfl) (.inBlock 0 :: K) _
theorem L0_eq (x1 x3 x4 : AV) (m : Mem) (K : List Item) : L0 x1 x3 x4 m K = den prog ann 20 (.code k1 :: .inLoop l0 :: .inBlock 0 :: K) ⟨[(1, x1), (3, x3), (4, x4)], 51, m⟩ := den_flat hf (l := [k1]) (by kernel_rfl) _ _
theorem k1_eq (K : List Item) (s : St) : den prog ann 20 (.code k1 :: K) s = den prog ann 20 (.code r2 :: .code i0 :: .code r4 :: .code k2 :: .code r8 :: .code i2 :: .code r10 :: .inBlock 1 :: K) s := den_blk hf (b := blkOf k1) (l := [r2, i0, r4, k2, r8, i2, r10]) (by kernel_rfl) (by kernel_rfl) K s
theorem r2_eq (K : List Item) (s : St) : den prog ann 20 (.code r2 :: K) s = mreg prog ann 20 (some [1, 3, 4]) [] none [] [
    ⟨some 11, none, .v fun s => loadF true 2 (s.get 1)⟩,
    ⟨some 12, none, .v fun s => some (s.get 4)⟩,
    ⟨some 13, none, .c 0 (fun s => (.fn 66 [] [])) fun s => [(s.get 11), (s.get 12)]⟩] K s := (den_reg hf _ K s).trans (by kernel_rfl)
theorem i0_eq (K : List Item) (s : St) : den prog ann 20 (.code i0 :: K) s = ifV prog ann 20 13 i0t i0e K s (s.get 13) := den_if hf (by kernel_rfl) K s
theorem i0t_eq (K : List Item) (s : St) : den prog ann 20 (.code i0t :: K) s = den prog ann 20 (.code r3 :: K) s := den_flat hf (l := [r3]) (by kernel_rfl) K s
theorem r3_eq (K : List Item) (s : St) : den prog ann 20 (.code r3 :: K) s = mreg prog ann 20 none [] none [] [
    ⟨some 14, none, .v fun s => some (s.get 3)⟩,
    ⟨some 15, none, .w false none fun s => bslM s.m 0 (bslA 1 0 [.int .i64 0] [])⟩,
    ⟨some 16, none, .v fun s => some (s.get 4)⟩,
    ⟨some 17, none, .w true none fun s => appendA 1 8 s.m (s.get 15) (s.get 16)⟩,
    ⟨some 18, none, .v fun s => bslF 1 (bslA 1 1 [.nils] [(0, (s.get 17))])⟩,
    ⟨some 19, none, .w false none fun s => appendA 1 24 s.m (s.get 14) (s.get 18)⟩,
    ⟨some 3, none, .v fun s => some (s.get 19)⟩] K s := (den_reg hf _ K s).trans (by kernel_rfl)
theorem i0e_eq (K : List Item) (s : St) : den prog ann 20 (.code i0e :: K) s = den prog ann 20 (K) s := den_flat hf (l := []) (by kernel_rfl) K s
theorem r4_eq (K : List Item) (s : St) : den prog ann 20 (.code r4 :: K) s = mreg prog ann 20 (some [1, 3, 4]) [] none [] [
    ⟨some 20, none, .v fun s => some (s.get 4)⟩,
    ⟨some 21, none, .v fun s => lenSl (s.get 20)⟩,
    ⟨some 22, none, .v fun s => binA prog .sub 3 (s.get 21) (.int .i64 1)⟩,
    ⟨some 5, none, .v fun s => some (s.get 22)⟩] K s := (den_reg hf _ K s).trans (by kernel_rfl)
theorem k2_eq (K : List Item) (t : List (Nat × AV)) (m : Mem) : den prog ann 20 (.code k2 :: K) ⟨t, 51, m⟩ = L2 (get t 1) (get t 3) (get t 4) (get t 5) m K := den_loop_enter hf (b := l2) (id := 5) (l := [1, 3, 4, 5]) (by kernel_rfl) (by kernel_rfl) (by kernel_rfl) K _
theorem l2_eq (K : List Item) (t : List (Nat × AV)) (m : Mem) : den prog ann 20 (.inLoop l2 :: .inBlock 2 :: K) ⟨t, 51, m⟩ = L2 (get t 1) (get t 3) (get t 4) (get t 5) m K := den_loop_again hf (id := 5) (l := [1, 3, 4, 5]) (by kernel_rfl) (by kernel_rfl) (.inBlock 2 :: K) _
theorem L2_eq (x1 x3 x4 x5 : AV) (m : Mem) (K : List Item) : L2 x1 x3 x4 x5 m K = den prog ann 20 (.code r5 :: .code i1 :: .code k3 :: .inLoop l2 :: .inBlock 2 :: K) ⟨[(1, x1), (3, x3), (4, x4), (5, x5)], 51, m⟩ := den_flat hf (l := [r5, i1, k3]) (by kernel_rfl) _ _
theorem r5_draw : drawOk (fun g => (ann g).pure) (modeOf (ann 20) (idOf r5)) (frzOf (ann 20) (idOf r5)) (opsOf r5) = true := drawOk_of (an := [0, 1, 3, 7, 7, 31, 63, 7, 135, 7, 903, 1927, 4095, 8191]) (by kernel_rfl) (by kernel_rfl)
theorem r5_eq (K : List Item) (s : St) : den prog ann 20 (.code r5 :: K) s = mreg prog ann 20 (some [1, 3, 4, 5]) [] (some 14) [] [
    ⟨some 23, none, .v fun s => some (s.get 5)⟩,
    ⟨some 24, none, .v fun s => binA prog .geq 3 (s.get 23) (.int .i64 0)⟩,
    ⟨some 25, none, .v fun s => some (s.get 24)⟩,
    ⟨some 26, some (25, true), .v fun s => some (s.get 4)⟩,
    ⟨some 27, some (25, true), .v fun s => some (s.get 5)⟩,
    ⟨some 28, some (25, true), .v fun s => idxSl 1 (s.get 26) (s.get 27)⟩,
    ⟨some 29, some (25, true), .v fun s => loadA false 1 s.m (s.get 28)⟩,
    ⟨some 30, some (25, true), .v fun s => fieldA 0 (s.get 1)⟩,
    ⟨some 31, some (25, true), .v fun s => loadF false 1 (s.get 30)⟩,
    ⟨some 32, some (25, true), .v fun s => some (s.get 5)⟩,
    ⟨some 33, some (25, true), .v fun s => idxSl 1 (s.get 31) (s.get 32)⟩,
    ⟨some 34, some (25, true), .v fun s => loadF false 1 (s.get 33)⟩,
    ⟨some 35, some (25, true), .v fun s => binA prog .eql 3 (s.get 29) (s.get 34)⟩,
    ⟨some 36, none, .v fun s => pickA (s.get 25) (s.get 35) (.bool false)⟩] K s := (den_regD hf r5_draw K s).trans (by kernel_rfl)
theorem i1_eq (K : List Item) (s : St) : den prog ann 20 (.code i1 :: K) s = ifV prog ann 20 36 i1t i1e K s (s.get 36) := den_if hf (by kernel_rfl) K s
theorem i1t_eq (K : List Item) (s : St) : den prog ann 20 (.code i1t :: K) s = den prog ann 20 (K) s := den_flat hf (l := []) (by kernel_rfl) K s
theorem i1e_eq (K : List Item) (s : St) : den prog ann 20 (.code i1e :: K) s = den prog ann 20 (.code (.exit 2) :: K) s := den_flat hf (l := [(.exit 2)]) (by kernel_rfl) K s
theorem k3_eq (K : List Item) (s : St) : den prog ann 20 (.code k3 :: K) s = den prog ann 20 (.code r6 :: .code r7 :: .inBlock 3 :: K) s := den_blk hf (b := blkOf k3) (l := [r6, r7]) (by kernel_rfl) (by kernel_rfl) K s
theorem r6_eq (K : List Item) (s : St) : den prog ann 20 (.code r6 :: K) s = mreg prog ann 20 none [] none [] [
    ⟨some 37, none, .v fun s => some (s.get 4)⟩,
    ⟨some 38, none, .v fun s => some (s.get 5)⟩,
    ⟨some 39, none, .v fun s => idxSl 1 (s.get 37) (s.get 38)⟩,
    ⟨none, none, .w false none fun s => stA false 1 s.m (s.get 39) (.int .i64 0)⟩] K s := (den_reg hf _ K s).trans (by kernel_rfl)
theorem r7_eq (K : List Item) (s : St) : den prog ann 20 (.code r7 :: K) s = mreg prog ann 20 none [] none [] [
    ⟨some 40, none, .v fun s => some (s.get 5)⟩,
    ⟨some 41, none, .v fun s => binA prog .sub 3 (s.get 40) (.int .i64 1)⟩,
    ⟨some 5, none, .v fun s => some (s.get 41)⟩] K s := (den_reg hf _ K s).trans (by kernel_rfl)
theorem r8_eq (K : List Item) (s : St) : den prog ann 20 (.code r8 :: K) s = mreg prog ann 20 (some [1, 3, 4, 5]) [] none [] [
    ⟨some 42, none, .v fun s => some (s.get 5)⟩,
    ⟨some 43, none, .v fun s => binA prog .lss 3 (s.get 42) (.int .i64 0)⟩] K s := (den_reg hf _ K s).trans (by kernel_rfl)
theorem i2_eq (K : List Item) (s : St) : den prog ann 20 (.code i2 :: K) s = ifV prog ann 20 43 i2t i2e K s (s.get 43) := den_if hf (by kernel_rfl) K s
theorem i2t_eq (K : List Item) (s : St) : den prog ann 20 (.code i2t :: K) s = den prog ann 20 (.code r9 :: .code .ret :: K) s := den_flat hf (l := [r9, .ret]) (by kernel_rfl) K s
theorem r9_eq (K : List Item) (s : St) : den prog ann 20 (.code r9 :: K) s = mreg prog ann 20 none [] none [] [
    ⟨some 44, none, .v fun s => some (s.get 3)⟩,
    ⟨some 2, none, .v fun s => some (s.get 44)⟩] K s := (den_reg hf _ K s).trans (by kernel_rfl)
theorem i2e_eq (K : List Item) (s : St) : den prog ann 20 (.code i2e :: K) s = den prog ann 20 (K) s := den_flat hf (l := []) (by kernel_rfl) K s
theorem r10_eq (K : List Item) (s : St) : den prog ann 20 (.code r10 :: K) s = mreg prog ann 20 none [] none [] [
    ⟨some 45, none, .v fun s => some (s.get 4)⟩,
    ⟨some 46, none, .v fun s => some (s.get 5)⟩,
    ⟨some 47, none, .v fun s => idxSl 1 (s.get 45) (s.get 46)⟩,
    ⟨some 48, none, .v fun s => loadA false 1 s.m (s.get 47)⟩,
    ⟨some 49, none, .v fun s => binA prog .add 3 (s.get 48) (.int .i64 1)⟩,
    ⟨some 50, none, .v fun s => idxSl 1 (s.get 45) (s.get 46)⟩,
    ⟨none, none, .w false none fun s => stA false 1 s.m (s.get 50) (s.get 49)⟩] K s := (den_reg hf _ K s).trans (by kernel_rfl)
theorem ret_eq (K : List Item) (s : St) : den prog ann 20 (.code .ret :: K) s = finM true [fun s => some (s.get 2)] s := (den_ret hf K s).trans (by kernel_rfl)
theorem nil_eq (s : St) : den prog ann 20 [] s = finM true [fun s => some (s.get 2)] s := (den_nil hf s).trans (by kernel_rfl)
theorem inBlock_eq (id : Nat) (K : List Item) (s : St) : den prog ann 20 (.inBlock id :: K) s = den prog ann 20 K s := den_inBlock hf id K s
theorem exit_eq (id : Nat) (K : List Item) (s : St) : den prog ann 20 (.code (.exit id) :: K) s = exitV prog ann 20 (exitTo id K) s := den_exitV hf id K s
theorem call_eq (v0 : AV) (m : Mem) (h : closedL [v0] = true) : denC prog ann 20 [v0] m = (den prog ann 20 [.code b] ⟨[(0, v0)], 51, Mem.empty⟩).bind fun r => some (r.1, m) := (denC_pure hf (b := b) (by kernel_rfl) (by kernel_rfl) (by kernel_rfl) h m).trans (by kernel_rfl)
theorem pure_eq : (ann 20).pure = true := by kernel_rfl
attribute [simp] b_eq r0_eq r1_eq k0_eq l0_eq k1_eq r2_eq i0_eq i0t_eq r3_eq i0e_eq r4_eq k2_eq l2_eq r5_eq i1_eq i1t_eq i1e_eq k3_eq r6_eq r7_eq r8_eq i2_eq i2t_eq r9_eq i2e_eq r10_eq ret_eq nil_eq inBlock_eq exit_eq pure_eq
end r09_Cuts

namespace r09_Valid
/-- pommel/pommelref09.Valid -/
noncomputable def b : Code := (Try.f19.body).getD .skip
theorem hf : prog.funcs[19]? = some Try.f19 := by kernel_rfl
noncomputable def r0 : Code := findReg b 0
noncomputable def r1 : Code := findReg b 1
noncomputable def k0 : Code := findBlk b 0
noncomputable def l0 : Code := loopOf k0
noncomputable def L0 (x1 x3 : AV) (m : Mem) (K : List Item) : Option Res := den prog ann 19 (.code l0 :: .inLoop l0 :: .inBlock 0 :: K) ⟨[(1, x1), (3, x3)], 132, m⟩
noncomputable def r2 : Code := findReg b 2
noncomputable def i0 : Code := findCond b 0
noncomputable def i0t : Code := thenOf i0
noncomputable def i0e : Code := elseOf i0
noncomputable def k1 : Code := findBlk b 1
noncomputable def r4 : Code := findReg b 4
noncomputable def i1 : Code := findCond b 1
noncomputable def i1t : Code := thenOf i1
noncomputable def i1e : Code := elseOf i1
noncomputable def r5 : Code := findReg b 5
noncomputable def r3 : Code := findReg b 3
noncomputable def r6 : Code := findReg b 6
noncomputable def i2 : Code := findCond b 2
noncomputable def i2t : Code := thenOf i2
noncomputable def i2e : Code := elseOf i2
noncomputable def r7 : Code := findReg b 7
noncomputable def r8 : Code := findReg b 8
noncomputable def k2 : Code := findBlk b 2
noncomputable def l2 : Code := loopOf k2
noncomputable def L2 (x1 x4 : AV) (m : Mem) (K : List Item) : Option Res := den prog ann 19 (.code l2 :: .inLoop l2 :: .inBlock 2 :: K) ⟨[(1, x1), (4, x4)], 132, m⟩
noncomputable def r9 : Code := findReg b 9
noncomputable def i3 : Code := findCond b 3
noncomputable def i3t : Code := thenOf i3
noncomputable def i3e : Code := elseOf i3
noncomputable def k3 : Code := findBlk b 3
noncomputable def r11 : Code := findReg b 11
noncomputable def r12 : Code := findReg b 12
noncomputable def i4 : Code := findCond b 4
noncomputable def i4t : Code := thenOf i4
noncomputable def i4e : Code := elseOf i4
noncomputable def r13 : Code := findReg b 13
noncomputable def r10 : Code := findReg b 10
noncomputable def r14 : Code := findReg b 14
noncomputable def r15 : Code := findReg b 15
noncomputable def k4 : Code := findBlk b 4
noncomputable def l4 : Code := loopOf k4
noncomputable def L4 (x1 x6 x7 : AV) (m : Mem) (K : List Item) : Option Res := den prog ann 19 (.code l4 :: .inLoop l4 :: .inBlock 4 :: K) ⟨[(1, x1), (6, x6), (7, x7)], 132, m⟩
noncomputable def r16 : Code := findReg b 16
noncomputable def i5 : Code := findCond b 5
noncomputable def i5t : Code := thenOf i5
noncomputable def i5e : Code := elseOf i5
noncomputable def k5 : Code := findBlk b 5
noncomputable def r17 : Code := findReg b 17
noncomputable def r18 : Code := findReg b 18
noncomputable def k6 : Code := findBlk b 6
noncomputable def l6 : Code := loopOf k6
noncomputable def L6 (x1 x6 x7 x8 : AV) (m : Mem) (K : List Item) : Option Res := den prog ann 19 (.code l6 :: .inLoop l6 :: .inBlock 6 :: K) ⟨[(1, x1), (6, x6), (7, x7), (8, x8)], 132, m⟩
noncomputable def r19 : Code := findReg b 19
noncomputable def i6 : Code := findCond b 6
noncomputable def i6t : Code := thenOf i6
noncomputable def i6e : Code := elseOf i6
noncomputable def k7 : Code := findBlk b 7
noncomputable def r21 : Code := findReg b 21
noncomputable def i7 : Code := findCond b 7
noncomputable def i7t : Code := thenOf i7
noncomputable def i7e : Code := elseOf i7
noncomputable def r22 : Code := findReg b 22
noncomputable def r23 : Code := findReg b 23
noncomputable def r20 : Code := findReg b 20
noncomputable def r24 : Code := findReg b 24
theorem b_eq (K : List Item) (s : St) : den prog ann 19 (.code b :: K) s = den prog ann 19 (.code r0 :: .code r1 :: .code k0 :: .code r6 :: .code i2 :: .code r8 :: .code k2 :: .code r14 :: .code r15 :: .code k4 :: .code r24 :: .code .ret :: K) s := den_flat hf (l := [r0, r1, k0, r6, i2, r8, k2, r14, r15, k4, r24, .ret]) (by kernel_rfl) K s
theorem r0_eq (K : List Item) (s : St) : den prog ann 19 (.code r0 :: K) s = mreg prog ann 19 none [] none [] [
    ⟨some 1, none, .v fun s => frozenPtr (s.get 0)⟩,
    ⟨some 2, none, .v fun s => some (.bool false)⟩] K s := (den_reg hf _ K s).trans (by kernel_rfl)
theorem r1_eq (K : List Item) (s : St) : den prog ann 19 (.code r1 :: K) s = mreg prog ann 19 none [] none [] [
    ⟨some 3, none, .v fun s => some (.int .i64 0)⟩] K s := (den_reg hf _ K s).trans (by kernel_rfl)
theorem k0_eq (K : List Item) (t : List (Nat × AV)) (m : Mem) : den prog ann 19 (.code k0 :: K) ⟨t, 132, m⟩ = L0 (get t 1) (get t 3) m K := den_loop_enter hf (b := l0) (id := 2) (l := [1, 3]) (by kernel_rfl) (by kernel_rfl) (by kernel_rfl) K _
theorem l0_eq (K : List Item) (t : List (Nat × AV)) (m : Mem) : den prog ann 19 (.inLoop l0 :: .inBlock 0 :: K) ⟨t, 132, m⟩ = L0 (get t 1) (get t 3) m K := den_loop_again hf (id := 2) (l := [1, 3]) (by kernel_rfl) (by kernel_rfl) (.inBlock 0 :: K) _
theorem L0_eq (x1 x3 : AV) (m : Mem) (K : List Item) : L0 x1 x3 m K = den prog ann 19 (.code r2 :: .code i0 :: .code k1 :: .code r3 :: .inLoop l0 :: .inBlock 0 :: K) ⟨[(1, x1), (3, x3)], 132, m⟩ := den_flat hf (l := [r2, i0, k1, r3]) (by kernel_rfl) _ _
theorem r2_eq (K : List Item) (s : St) : den prog ann 19 (.code r2 :: K) s = mreg prog ann 19 (some [1, 3]) [] none [] [
    ⟨some 9, none, .v fun s => some (s.get 3)⟩,
    ⟨some 10, none, .v fun s => fieldA 0 (s.get 1)⟩,
    ⟨some 11, none, .v fun s => loadF false 1 (s.get 10)⟩,
    ⟨some 12, none, .v fun s => lenSl (s.get 11)⟩,
    ⟨some 13, none, .v fun s => binA prog .lss 3 (s.get 9) (s.get 12)⟩] K s := (den_reg hf _ K s).trans (by kernel_rfl)
theorem i0_eq (K : List Item) (s : St) : den prog ann 19 (.code i0 :: K) s = ifV prog ann 19 13 i0t i0e K s (s.get 13) := den_if hf (by kernel_rfl) K s
theorem i0t_eq (K : List Item) (s : St) : den prog ann 19 (.code i0t :: K) s = den prog ann 19 (K) s := den_flat hf (l := []) (by kernel_rfl) K s
theorem i0e_eq (K : List Item) (s : St) : den prog ann 19 (.code i0e :: K) s = den prog ann 19 (.code (.exit 0) :: K) s := den_flat hf (l := [(.exit 0)]) (by kernel_rfl) K s
theorem k1_eq (K : List Item) (s : St) : den prog ann 19 (.code k1 :: K) s = den prog ann 19 (.code r4 :: .code i1 :: .inBlock 1 :: K) s := den_blk hf (b := blkOf k1) (l := [r4, i1]) (by kernel_rfl) (by kernel_rfl) K s
theorem r4_eq (K : List Item) (s : St) : den prog ann 19 (.code r4 :: K) s = mreg prog ann 19 none [] none [] [
    ⟨some 16, none, .v fun s => fieldA 0 (s.get 1)⟩,
    ⟨some 17, none, .v fun s => loadF false 1 (s.get 16)⟩,
    ⟨some 18, none, .v fun s => some (s.get 3)⟩,
    ⟨some 19, none, .v fun s => idxSl 1 (s.get 17) (s.get 18)⟩,
    ⟨some 20, none, .v fun s => loadF false 1 (s.get 19)⟩,
    ⟨some 21, none, .c 0 (fun s => (.fn 64 [] [])) fun s => [(s.get 20), (.int .i64 0), (.int .i64 6)]⟩,
    ⟨some 22, none, .v fun s => unA .not (s.get 21)⟩] K s := (den_reg hf _ K s).trans (by kernel_rfl)
theorem i1_eq (K : List Item) (s : St) : den prog ann 19 (.code i1 :: K) s = ifV prog ann 19 22 i1t i1e K s (s.get 22) := den_if hf (by kernel_rfl) K s
theorem i1t_eq (K : List Item) (s : St) : den prog ann 19 (.code i1t :: K) s = den prog ann 19 (.code r5 :: .code .ret :: K) s := den_flat hf (l := [r5, .ret]) (by kernel_rfl) K s
theorem r5_eq (K : List Item) (s : St) : den prog ann 19 (.code r5 :: K) s = mreg prog ann 19 none [] none [] [
    ⟨some 2, none, .v fun s => some (.bool false)⟩] K s := (den_reg hf _ K s).trans (by kernel_rfl)
theorem i1e_eq (K : List Item) (s : St) : den prog ann 19 (.code i1e :: K) s = den prog ann 19 (K) s := den_flat hf (l := []) (by kernel_rfl) K s
theorem r3_eq (K : List Item) (s : St) : den prog ann 19 (.code r3 :: K) s = mreg prog ann 19 (some [1, 3]) [] none [] [
    ⟨some 14, none, .v fun s => some (s.get 3)⟩,
    ⟨some 15, none, .v fun s => binA prog .add 3 (s.get 14) (.int .i64 1)⟩,
    ⟨some 3, none, .v fun s => some (s.get 15)⟩] K s := (den_reg hf _ K s).trans (by kernel_rfl)
theorem r6_eq (K : List Item) (s : St) : den prog ann 19 (.code r6 :: K) s = mreg prog ann 19 (some [1]) [] none [] [
    ⟨some 23, none, .v fun s => fieldA 0 (s.get 1)⟩,
    ⟨some 24, none, .v fun s => loadF false 1 (s.get 23)⟩,
    ⟨some 25, none, .v fun s => lenSl (s.get 24)⟩,
    ⟨some 26, none, .c 0 (fun s => (.fn 64 [] [])) fun s => [(s.get 25), (.int .i64 1), (.int .i64 4)]⟩,
    ⟨some 27, none, .v fun s => unA .not (s.get 26)⟩,
    ⟨some 28, none, .v fun s => some (s.get 27)⟩,
    ⟨some 29, some (28, false), .v fun s => fieldA 1 (s.get 1)⟩,
    ⟨some 30, some (28, false), .v fun s => loadF false 1 (s.get 29)⟩,
    ⟨some 31, some (28, false), .v fun s => lenSl (s.get 30)⟩,
    ⟨some 32, some (28, false), .v fun s => binA prog .gtr 3 (s.get 31) (.int .i64 24)⟩,
    ⟨some 33, none, .v fun s => pickA (s.get 28) (.bool true) (s.get 32)⟩] K s := (den_reg hf _ K s).trans (by kernel_rfl)
theorem i2_eq (K : List Item) (s : St) : den prog ann 19 (.code i2 :: K) s = ifV prog ann 19 33 i2t i2e K s (s.get 33) := den_if hf (by kernel_rfl) K s
theorem i2t_eq (K : List Item) (s : St) : den prog ann 19 (.code i2t :: K) s = den prog ann 19 (.code r7 :: .code .ret :: K) s := den_flat hf (l := [r7, .ret]) (by kernel_rfl) K s
theorem r7_eq (K : List Item) (s : St) : den prog ann 19 (.code r7 :: K) s = mreg prog ann 19 none [] none [] [
    ⟨some 2, none, .v fun s => some (.bool false)⟩] K s := (den_reg hf _ K s).trans (by kernel_rfl)
theorem i2e_eq (K : List Item) (s : St) : den prog ann 19 (.code i2e :: K) s = den prog ann 19 (K) s := den_flat hf (l := []) (by kernel_rfl) K s
theorem r8_eq (K : List Item) (s : St) : den prog ann 19 (.code r8 :: K) s = mreg prog ann 19 none [] none [] [
    ⟨some 4, none, .v fun s => some (.int .i64 0)⟩] K s := (den_reg hf _ K s).trans (by kernel_rfl)
theorem k2_eq (K : List Item) (t : List (Nat × AV)) (m : Mem) : den prog ann 19 (.code k2 :: K) ⟨t, 132, m⟩ = L2 (get t 1) (get t 4) m K := den_loop_enter hf (b := l2) (id := 9) (l := [1, 4]) (by kernel_rfl) (by kernel_rfl) (by kernel_rfl) K _
theorem l2_eq (K : List Item) (t : List (Nat × AV)) (m : Mem) : den prog ann 19 (.inLoop l2 :: .inBlock 2 :: K) ⟨t, 132, m⟩ = L2 (get t 1) (get t 4) m K := den_loop_again hf (id := 9) (l := [1, 4]) (by kernel_rfl) (by kernel_rfl) (.inBlock 2 :: K) _
theorem L2_eq (x1 x4 : AV) (m : Mem) (K : List Item) : L2 x1 x4 m K = den prog ann 19 (.code r9 :: .code i3 :: .code k3 :: .code r10 :: .inLoop l2 :: .inBlock 2 :: K) ⟨[(1, x1), (4, x4)], 132, m⟩ := den_flat hf (l := [r9, i3, k3, r10]) (by kernel_rfl) _ _
theorem r9_eq (K : List Item) (s : St) : den prog ann 19 (.code r9 :: K) s = mreg prog ann 19 (some [1, 4]) [] none [] [
    ⟨some 34, none, .v fun s => some (s.get 4)⟩,
    ⟨some 35, none, .v fun s => fieldA 1 (s.get 1)⟩,
    ⟨some 36, none, .v fun s => loadF false 1 (s.get 35)⟩,
    ⟨some 37, none, .v fun s => lenSl (s.get 36)⟩,
    ⟨some 38, none, .v fun s => binA prog .lss 3 (s.get 34) (s.get 37)⟩] K s := (den_reg hf _ K s).trans (by kernel_rfl)
theorem i3_eq (K : List Item) (s : St) : den prog ann 19 (.code i3 :: K) s = ifV prog ann 19 38 i3t i3e K s (s.get 38) := den_if hf (by kernel_rfl) K s
theorem i3t_eq (K : List Item) (s : St) : den prog ann 19 (.code i3t :: K) s = den prog ann 19 (K) s := den_flat hf (l := []) (by kernel_rfl) K s
theorem i3e_eq (K : List Item) (s : St) : den prog ann 19 (.code i3e :: K) s = den prog ann 19 (.code (.exit 2) :: K) s := den_flat hf (l := [(.exit 2)]) (by kernel_rfl) K s
theorem k3_eq (K : List Item) (s : St) : den prog ann 19 (.code k3 :: K) s = den prog ann 19 (.code r11 :: .code r12 :: .code i4 :: .inBlock 3 :: K) s := den_blk hf (b := blkOf k3) (l := [r11, r12, i4]) (by kernel_rfl) (by kernel_rfl) K s
theorem r11_eq (K : List Item) (s : St) : den prog ann 19 (.code r11 :: K) s = mreg prog ann 19 none [] none [5] [
    ⟨some 41, none, .v fun s => fieldA 1 (s.get 1)⟩,
    ⟨some 42, none, .v fun s => loadF false 1 (s.get 41)⟩,
    ⟨some 43, none, .v fun s => some (s.get 4)⟩,
    ⟨some 44, none, .v fun s => idxSl 4 (s.get 42) (s.get 43)⟩,
    ⟨some 45, none, .v fun s => loadF true 4 (s.get 44)⟩,
    ⟨some 5, none, .w false none fun s => newPtr s.m [.int .i64 0, .int .i64 0, .int .i64 0, .int .i64 0]⟩,
    ⟨none, none, .w false none fun s => stA true 4 s.m (s.get 5) (s.get 45)⟩] K s := (den_reg hf _ K s).trans (by kernel_rfl)
theorem r12_draw : drawOk (fun g => (ann g).pure) (modeOf (ann 19) (idOf r12)) (frzOf (ann 19) (idOf r12)) (opsOf r12) = true := drawOk_of (an := [0, 1, 0, 4, 12, 28, 63, 127, 255, 511, 1023, 511, 2559, 6655, 14847, 32767, 65535, 131071, 262143, 524287, 1048575, 524287, 2621439, 8388607, 16777215, 33554431, 67108863, 134217727, 67108863, 335544319, 67108863, 1140850687, 4093640703, 8388607999, 17179869183, 34359738367, 68719476735, 137438953471, 274877906943, 549755813887, 274877906943, 1374389534719, 274877906943, 4672924418047, 16767552323583, 34359738367999, 70368744177663, 140737488355327, 281474976710655]) (by kernel_rfl) (by kernel_rfl)
theorem r12_eq (K : List Item) (s : St) : den prog ann 19 (.code r12 :: K) s = mreg prog ann 19 none [] (some 49) [] [
    ⟨some 46, none, .v fun s => fieldA 0 (s.get 5)⟩,
    ⟨some 47, none, .v fun s => loadF false 1 (s.get 46)⟩,
    ⟨some 48, none, .v fun s => fieldA 0 (s.get 1)⟩,
    ⟨some 49, none, .v fun s => loadF false 1 (s.get 48)⟩,
    ⟨some 50, none, .v fun s => lenSl (s.get 49)⟩,
    ⟨some 51, none, .v fun s => binA prog .sub 3 (s.get 50) (.int .i64 1)⟩,
    ⟨some 52, none, .c 0 (fun s => (.fn 64 [] [])) fun s => [(s.get 47), (.int .i64 0), (s.get 51)]⟩,
    ⟨some 53, none, .v fun s => unA .not (s.get 52)⟩,
    ⟨some 54, none, .v fun s => some (s.get 53)⟩,
    ⟨some 55, some (54, false), .v fun s => fieldA 2 (s.get 5)⟩,
    ⟨some 56, some (54, false), .v fun s => loadF false 1 (s.get 55)⟩,
    ⟨some 57, some (54, false), .v fun s => fieldA 0 (s.get 1)⟩,
    ⟨some 58, some (54, false), .v fun s => loadF false 1 (s.get 57)⟩,
    ⟨some 59, some (54, false), .v fun s => lenSl (s.get 58)⟩,
    ⟨some 60, some (54, false), .v fun s => binA prog .sub 3 (s.get 59) (.int .i64 1)⟩,
    ⟨some 61, some (54, false), .c 0 (fun s => (.fn 64 [] [])) fun s => [(s.get 56), (.int .i64 0), (s.get 60)]⟩,
    ⟨some 62, some (54, false), .v fun s => unA .not (s.get 61)⟩,
    ⟨some 63, none, .v fun s => pickA (s.get 54) (.bool true) (s.get 62)⟩,
    ⟨some 64, none, .v fun s => some (s.get 63)⟩,
    ⟨some 65, some (64, false), .v fun s => fieldA 0 (s.get 5)⟩,
    ⟨some 66, some (64, false), .v fun s => loadF false 1 (s.get 65)⟩,
    ⟨some 67, some (64, false), .v fun s => fieldA 2 (s.get 5)⟩,
    ⟨some 68, some (64, false), .v fun s => loadF false 1 (s.get 67)⟩,
    ⟨some 69, some (64, false), .v fun s => binA prog .eql 3 (s.get 66) (s.get 68)⟩,
    ⟨some 70, none, .v fun s => pickA (s.get 64) (.bool true) (s.get 69)⟩,
    ⟨some 71, none, .v fun s => some (s.get 70)⟩,
    ⟨some 72, some (71, false), .v fun s => fieldA 1 (s.get 5)⟩,
    ⟨some 73, some (71, false), .v fun s => loadF false 1 (s.get 72)⟩,
    ⟨some 74, some (71, false), .v fun s => fieldA 0 (s.get 1)⟩,
    ⟨some 75, some (71, false), .v fun s => loadF false 1 (s.get 74)⟩,
    ⟨some 76, some (71, false), .v fun s => fieldA 0 (s.get 5)⟩,
    ⟨some 77, some (71, false), .v fun s => loadF false 1 (s.get 76)⟩,
    ⟨some 78, some (71, false), .v fun s => idxSl 1 (s.get 75) (s.get 77)⟩,
    ⟨some 79, some (71, false), .v fun s => loadF false 1 (s.get 78)⟩,
    ⟨some 80, some (71, false), .c 0 (fun s => (.fn 64 [] [])) fun s => [(s.get 73), (.int .i64 1), (s.get 79)]⟩,
    ⟨some 81, some (71, false), .v fun s => unA .not (s.get 80)⟩,
    ⟨some 82, none, .v fun s => pickA (s.get 71) (.bool true) (s.get 81)⟩,
    ⟨some 83, none, .v fun s => some (s.get 82)⟩,
    ⟨some 84, some (83, false), .v fun s => fieldA 3 (s.get 5)⟩,
    ⟨some 85, some (83, false), .v fun s => loadF false 1 (s.get 84)⟩,
    ⟨some 86, some (83, false), .v fun s => fieldA 0 (s.get 1)⟩,
    ⟨some 87, some (83, false), .v fun s => loadF false 1 (s.get 86)⟩,
    ⟨some 88, some (83, false), .v fun s => fieldA 2 (s.get 5)⟩,
    ⟨some 89, some (83, false), .v fun s => loadF false 1 (s.get 88)⟩,
    ⟨some 90, some (83, false), .v fun s => idxSl 1 (s.get 87) (s.get 89)⟩,
    ⟨some 91, some (83, false), .v fun s => loadF false 1 (s.get 90)⟩,
    ⟨some 92, some (83, false), .c 0 (fun s => (.fn 64 [] [])) fun s => [(s.get 85), (.int .i64 1), (s.get 91)]⟩,
    ⟨some 93, some (83, false), .v fun s => unA .not (s.get 92)⟩,
    ⟨some 94, none, .v fun s => pickA (s.get 83) (.bool true) (s.get 93)⟩] K s := (den_regD hf r12_draw K s).trans (by kernel_rfl)
theorem i4_eq (K : List Item) (s : St) : den prog ann 19 (.code i4 :: K) s = ifV prog ann 19 94 i4t i4e K s (s.get 94) := den_if hf (by kernel_rfl) K s
theorem i4t_eq (K : List Item) (s : St) : den prog ann 19 (.code i4t :: K) s = den prog ann 19 (.code r13 :: .code .ret :: K) s := den_flat hf (l := [r13, .ret]) (by kernel_rfl) K s
theorem r13_eq (K : List Item) (s : St) : den prog ann 19 (.code r13 :: K) s = mreg prog ann 19 none [] none [] [
    ⟨some 2, none, .v fun s => some (.bool false)⟩] K s := (den_reg hf _ K s).trans (by kernel_rfl)
theorem i4e_eq (K : List Item) (s : St) : den prog ann 19 (.code i4e :: K) s = den prog ann 19 (K) s := den_flat hf (l := []) (by kernel_rfl) K s
theorem r10_eq (K : List Item) (s : St) : den prog ann 19 (.code r10 :: K) s = mreg prog ann 19 (some [1, 4]) [] none [] [
    ⟨some 39, none, .v fun s => some (s.get 4)⟩,
    ⟨some 40, none, .v fun s => binA prog .add 3 (s.get 39) (.int .i64 1)⟩,
    ⟨some 4, none, .v fun s => some (s.get 40)⟩] K s := (den_reg hf _ K s).trans (by kernel_rfl)
theorem r14_eq (K : List Item) (s : St) : den prog ann 19 (.code r14 :: K) s = mreg prog ann 19 (some [1]) [] none [] [
    ⟨some 95, none, .v fun s => fieldA 0 (s.get 1)⟩,
    ⟨some 96, none, .v fun s => loadF false 1 (s.get 95)⟩,
    ⟨some 97, none, .v fun s => lenSl (s.get 96)⟩,
    ⟨some 98, none, .w false none fun s => makeA 1 8 (.int .i64 0) s.m (s.get 97) (s.get 97)⟩,
    ⟨some 6, none, .v fun s => some (s.get 98)⟩] K s := (den_reg hf _ K s).trans (by kernel_rfl)
theorem r15_eq (K : List Item) (s : St) : den prog ann 19 (.code r15 :: K) s = mreg prog ann 19 none [] none [] [
    ⟨some 7, none, .v fun s => some (.bool true)⟩] K s := (den_reg hf _ K s).trans (by kernel_rfl)
theorem k4_eq (K : List Item) (t : List (Nat × AV)) (m : Mem) : den prog ann 19 (.code k4 :: K) ⟨t, 132, m⟩ = L4 (get t 1) (get t 6) (get t 7) m K := den_loop_enter hf (b := l4) (id := 16) (l := [1, 6, 7]) (by kernel_rfl) (by kernel_rfl) (by kernel_rfl) K _
theorem l4_eq (K : List Item) (t : List (Nat × AV)) (m : Mem) : den prog ann 19 (.inLoop l4 :: .inBlock 4 :: K) ⟨t, 132, m⟩ = L4 (get t 1) (get t 6) (get t 7) m K := den_loop_again hf (id := 16) (l := [1, 6, 7]) (by kernel_rfl) (by kernel_rfl) (.inBlock 4 :: K) _
theorem L4_eq (x1 x6 x7 : AV) (m : Mem) (K : List Item) : L4 x1 x6 x7 m K = den prog ann 19 (.code r16 :: .code i5 :: .code k5 :: .inLoop l4 :: .inBlock 4 :: K) ⟨[(1, x1), (6, x6), (7, x7)], 132, m⟩ := den_flat hf (l := [r16, i5, k5]) (by kernel_rfl) _ _
theorem r16_eq (K : List Item) (s : St) : den prog ann 19 (.code r16 :: K) s = mreg prog ann 19 (some [1, 6, 7]) [] none [] [
    ⟨some 99, none, .v fun s => some (s.get 7)⟩] K s := (den_reg hf _ K s).trans (by kernel_rfl)
theorem i5_eq (K : List Item) (s : St) : den prog ann 19 (.code i5 :: K) s = ifV prog ann 19 99 i5t i5e K s (s.get 99) := den_if hf (by kernel_rfl) K s
theorem i5t_eq (K : List Item) (s : St) : den prog ann 19 (.code i5t :: K) s = den prog ann 19 (K) s := den_flat hf (l := []) (by kernel_rfl) K s
theorem i5e_eq (K : List Item) (s : St) : den prog ann 19 (.code i5e :: K) s = den prog ann 19 (.code (.exit 4) :: K) s := den_flat hf (l := [(.exit 4)]) (by kernel_rfl) K s
theorem k5_eq (K : List Item) (s : St) : den prog ann 19 (.code k5 :: K) s = den prog ann 19 (.code r17 :: .code r18 :: .code k6 :: .inBlock 5 :: K) s := den_blk hf (b := blkOf k5) (l := [r17, r18, k6]) (by kernel_rfl) (by kernel_rfl) K s
theorem r17_eq (K : List Item) (s : St) : den prog ann 19 (.code r17 :: K) s = mreg prog ann 19 none [] none [] [
    ⟨some 7, none, .v fun s => some (.bool false)⟩] K s := (den_reg hf _ K s).trans (by kernel_rfl)
theorem r18_eq (K : List Item) (s : St) : den prog ann 19 (.code r18 :: K) s = mreg prog ann 19 none [] none [] [
    ⟨some 8, none, .v fun s => some (.int .i64 0)⟩] K s := (den_reg hf _ K s).trans (by kernel_rfl)
theorem k6_eq (K : List Item) (t : List (Nat × AV)) (m : Mem) : den prog ann 19 (.code k6 :: K) ⟨t, 132, m⟩ = L6 (get t 1) (get t 6) (get t 7) (get t 8) m K := den_loop_enter hf (b := l6) (id := 19) (l := [1, 6, 7, 8]) (by kernel_rfl) (by kernel_rfl) (by kernel_rfl) K _
theorem l6_eq (K : List Item) (t : List (Nat × AV)) (m : Mem) : den prog ann 19 (.inLoop l6 :: .inBlock 6 :: K) ⟨t, 132, m⟩ = L6 (get t 1) (get t 6) (get t 7) (get t 8) m K := den_loop_again hf (id := 19) (l := [1, 6, 7, 8]) (by kernel_rfl) (by kernel_rfl) (.inBlock 6 :: K) _
theorem L6_eq (x1 x6 x7 x8 : AV) (m : Mem) (K : List Item) : L6 x1 x6 x7 x8 m K = den prog ann 19 (.code r19 :: .code i6 :: .code k7 :: .code r20 :: .inLoop l6 :: .inBlock 6 :: K) ⟨[(1, x1), (6, x6), (7, x7), (8, x8)], 132, m⟩ := den_flat hf (l := [r19, i6, k7, r20]) (by kernel_rfl) _ _
theorem r19_eq (K : List Item) (s : St) : den prog ann 19 (.code r19 :: K) s = mreg prog ann 19 (some [1, 6, 7, 8]) [] none [] [
    ⟨some 100, none, .v fun s => some (s.get 8)⟩,
    ⟨some 101, none, .v fun s => some (s.get 6)⟩,
    ⟨some 102, none, .v fun s => lenSl (s.get 101)⟩,
    ⟨some 103, none, .v fun s => binA prog .lss 3 (s.get 100) (s.get 102)⟩] K s := (den_reg hf _ K s).trans (by kernel_rfl)
theorem i6_eq (K : List Item) (s : St) : den prog ann 19 (.code i6 :: K) s = ifV prog ann 19 103 i6t i6e K s (s.get 103) := den_if hf (by kernel_rfl) K s
theorem i6t_eq (K : List Item) (s : St) : den prog ann 19 (.code i6t :: K) s = den prog ann 19 (K) s := den_flat hf (l := []) (by kernel_rfl) K s
theorem i6e_eq (K : List Item) (s : St) : den prog ann 19 (.code i6e :: K) s = den prog ann 19 (.code (.exit 6) :: K) s := den_flat hf (l := [(.exit 6)]) (by kernel_rfl) K s
theorem k7_eq (K : List Item) (s : St) : den prog ann 19 (.code k7 :: K) s = den prog ann 19 (.code r21 :: .code i7 :: .inBlock 7 :: K) s := den_blk hf (b := blkOf k7) (l := [r21, i7]) (by kernel_rfl) (by kernel_rfl) K s
theorem r21_draw : drawOk (fun g => (ann g).pure) (modeOf (ann 19) (idOf r21)) (frzOf (ann 19) (idOf r21)) (opsOf r21) = true := drawOk_of (an := [0, 0, 3, 7, 0, 16, 0, 112, 240, 511, 1023, 2047, 2047, 2047, 16383, 32767]) (by kernel_rfl) (by kernel_rfl)
theorem r21_eq (K : List Item) (s : St) : den prog ann 19 (.code r21 :: K) s = mreg prog ann 19 none [] (some 16) [] [
    ⟨some 106, none, .v fun s => some (s.get 6)⟩,
    ⟨some 107, none, .v fun s => some (s.get 8)⟩,
    ⟨some 108, none, .v fun s => idxSl 1 (s.get 106) (s.get 107)⟩,
    ⟨some 109, none, .v fun s => loadA false 1 s.m (s.get 108)⟩,
    ⟨some 110, none, .v fun s => fieldA 0 (s.get 1)⟩,
    ⟨some 111, none, .v fun s => loadF false 1 (s.get 110)⟩,
    ⟨some 112, none, .v fun s => some (s.get 8)⟩,
    ⟨some 113, none, .v fun s => idxSl 1 (s.get 111) (s.get 112)⟩,
    ⟨some 114, none, .v fun s => loadF false 1 (s.get 113)⟩,
    ⟨some 115, none, .v fun s => binA prog .lss 3 (s.get 109) (s.get 114)⟩,
    ⟨some 116, none, .v fun s => some (s.get 115)⟩,
    ⟨some 117, some (116, true), .v fun s => loadF true 2 (s.get 1)⟩,
    ⟨some 118, some (116, true), .v fun s => some (s.get 6)⟩,
    ⟨some 119, some (116, true), .v fun s => some (s.get 8)⟩,
    ⟨some 120, some (116, true), .c 0 (fun s => (.fn 65 [] [])) fun s => [(s.get 117), (s.get 118), (s.get 119)]⟩,
    ⟨some 121, none, .v fun s => pickA (s.get 116) (s.get 120) (.bool false)⟩] K s := (den_regD hf r21_draw K s).trans (by kernel_rfl)
theorem i7_eq (K : List Item) (s : St) : den prog ann 19 (.code i7 :: K) s = ifV prog ann 19 121 i7t i7e K s (s.get 121) := den_if hf (by kernel_rfl) K s
theorem i7t_eq (K : List Item) (s : St) : den prog ann 19 (.code i7t :: K) s = den prog ann 19 (.code r22 :: .code r23 :: K) s := den_flat hf (l := [r22, r23]) (by kernel_rfl) K s
theorem r22_eq (K : List Item) (s : St) : den prog ann 19 (.code r22 :: K) s = mreg prog ann 19 none [] none [] [
    ⟨some 122, none, .v fun s => some (s.get 6)⟩,
    ⟨some 123, none, .v fun s => some (s.get 8)⟩,
    ⟨some 124, none, .v fun s => idxSl 1 (s.get 122) (s.get 123)⟩,
    ⟨some 125, none, .v fun s => loadA false 1 s.m (s.get 124)⟩,
    ⟨some 126, none, .v fun s => binA prog .add 3 (s.get 125) (.int .i64 1)⟩,
    ⟨some 127, none, .v fun s => idxSl 1 (s.get 122) (s.get 123)⟩,
    ⟨none, none, .w false none fun s => stA false 1 s.m (s.get 127) (s.get 126)⟩] K s := (den_reg hf _ K s).trans (by kernel_rfl)
theorem r23_eq (K : List Item) (s : St) : den prog ann 19 (.code r23 :: K) s = mreg prog ann 19 none [] none [] [
    ⟨some 7, none, .v fun s => some (.bool true)⟩] K s := (den_reg hf _ K s).trans (by kernel_rfl)
theorem i7e_eq (K : List Item) (s : St) : den prog ann 19 (.code i7e :: K) s = den prog ann 19 (K) s := den_flat hf (l := []) (by kernel_rfl) K s
theorem r20_eq (K : List Item) (s : St) : den prog ann 19 (.code r20 :: K) s = mreg prog ann 19 (some [1, 6, 7, 8]) [] none [] [
    ⟨some 104, none, .v fun s => some (s.get 8)⟩,
    ⟨some 105, none, .v fun s => binA prog .add 3 (s.get 104) (.int .i64 1)⟩,
    ⟨some 8, none, .v fun s => some (s.get 105)⟩] K s := (den_reg hf _ K s).trans (by kernel_rfl)
theorem r24_eq (K : List Item) (s : St) : den prog ann 19 (.code r24 :: K) s = mreg prog ann 19 (some [1, 6]) [] none [] [
    ⟨some 128, none, .v fun s => some (s.get 6)⟩,
    ⟨some 129, none, .v fun s => fieldA 0 (s.get 1)⟩,
    ⟨some 130, none, .v fun s => loadF false 1 (s.get 129)⟩,
    ⟨some 131, none, .c 0 (fun s => (.fn 21 [] [])) fun s => [(s.get 128), (s.get 130)]⟩,
    ⟨some 2, none, .v fun s => some (s.get 131)⟩] K s := (den_reg hf _ K s).trans (by kernel_rfl)
theorem ret_eq (K : List Item) (s : St) : den prog ann 19 (.code .ret :: K) s = finM true [fun s => some (s.get 2)] s := (den_ret hf K s).trans (by kernel_rfl)
theorem nil_eq (s : St) : den prog ann 19 [] s = finM true [fun s => some (s.get 2)] s := (den_nil hf s).trans (by kernel_rfl)
theorem inBlock_eq (id : Nat) (K : List Item) (s : St) : den prog ann 19 (.inBlock id :: K) s = den prog ann 19 K s := den_inBlock hf id K s
theorem exit_eq (id : Nat) (K : List Item) (s : St) : den prog ann 19 (.code (.exit id) :: K) s = exitV prog ann 19 (exitTo id K) s := den_exitV hf id K s
theorem call_eq (v0 : AV) (m : Mem) (h : closedL [v0] = true) : denC prog ann 19 [v0] m = (den prog ann 19 [.code b] ⟨[(0, v0)], 132, Mem.empty⟩).bind fun r => some (r.1, m) := (denC_pure hf (b := b) (by kernel_rfl) (by kernel_rfl) (by kernel_rfl) h m).trans (by kernel_rfl)
theorem pure_eq : (ann 19).pure = true := by kernel_rfl
attribute [simp] b_eq r0_eq r1_eq k0_eq l0_eq r2_eq i0_eq i0t_eq i0e_eq k1_eq r4_eq i1_eq i1t_eq r5_eq i1e_eq r3_eq r6_eq i2_eq i2t_eq r7_eq i2e_eq r8_eq k2_eq l2_eq r9_eq i3_eq i3t_eq i3e_eq k3_eq r11_eq r12_eq i4_eq i4t_eq r13_eq i4e_eq r10_eq r14_eq r15_eq k4_eq l4_eq r16_eq i5_eq i5t_eq i5e_eq k5_eq r17_eq r18_eq k6_eq l6_eq r19_eq i6_eq i6t_eq i6e_eq k7_eq r21_eq i7_eq i7t_eq r22_eq r23_eq i7e_eq r20_eq r24_eq ret_eq nil_eq inBlock_eq exit_eq pure_eq
end r09_Valid
end Go.Proofs.Ytdkmepjedjclkaa
