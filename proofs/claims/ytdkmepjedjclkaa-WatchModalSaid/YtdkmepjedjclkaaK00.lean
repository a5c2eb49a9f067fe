/-
  BODIES OF FUNCTIONS OF THE PROGRAM AS SMALL OPERATIONS (written by gen.py; checked by the kernel against the program). Conditions: none.
-/
import Derived.Test.YtdkmepjedjclkaaKAmH
import Derived.Test.YtdkmepjedjclkaaKAmG
import Derived.Test.YtdkmepjedjclkaaKAmF
set_option linter.all false
namespace Go.Proofs.Ytdkmepjedjclkaa
open Go.AM
open Go.Proofs.Try (prog)
set_option maxRecDepth 100000
set_option linter.all false

namespace r01_Same
/-- pommel/pommelref01.Same -/
noncomputable def b : Code := (Try.f21.body).getD .skip
theorem hf : prog.funcs[21]? = some Try.f21 := by kernel_rfl
noncomputable def r0 : Code := findReg b 0
noncomputable def r1 : Code := findReg b 1
theorem b_eq (K : List Item) (s : St) : den prog ann 21 (.code b :: K) s = den prog ann 21 (.code r0 :: .code r1 :: .code .ret :: K) s := den_flat hf (l := [r0, r1, .ret]) (by kernel_rfl) K s
theorem r0_eq (K : List Item) (s : St) : den prog ann 21 (.code r0 :: K) s = mreg prog ann 21 none [] none [] [
    ⟨some 4, none, .v fun s => some (.bool false)⟩] K s := (den_reg hf _ K s).trans (by kernel_rfl)
theorem r1_eq (K : List Item) (s : St) : den prog ann 21 (.code r1 :: K) s = mreg prog ann 21 none [] none [] [
    ⟨some 5, none, .v fun s => some (s.get 0)⟩,
    ⟨some 6, none, .v fun s => some (s.get 1)⟩,
    ⟨some 7, none, .c 0 (fun s => (.fn 67 [] [])) fun s => [(s.get 5), (s.get 6)]⟩,
    ⟨some 8, none, .v fun s => unA .not (s.get 7)⟩,
    ⟨some 9, none, .v fun s => some (s.get 8)⟩,
    ⟨some 10, some (9, true), .v fun s => some (s.get 1)⟩,
    ⟨some 11, some (9, true), .v fun s => some (s.get 0)⟩,
    ⟨some 12, some (9, true), .c 0 (fun s => (.fn 67 [] [])) fun s => [(s.get 10), (s.get 11)]⟩,
    ⟨some 13, some (9, true), .v fun s => unA .not (s.get 12)⟩,
    ⟨some 14, none, .v fun s => pickA (s.get 9) (s.get 13) (.bool false)⟩,
    ⟨some 4, none, .v fun s => some (s.get 14)⟩] K s := (den_reg hf _ K s).trans (by kernel_rfl)
theorem ret_eq (K : List Item) (s : St) : den prog ann 21 (.code .ret :: K) s = finM true [fun s => some (s.get 4)] s := (den_ret hf K s).trans (by kernel_rfl)
theorem nil_eq (s : St) : den prog ann 21 [] s = finM true [fun s => some (s.get 4)] s := (den_nil hf s).trans (by kernel_rfl)
theorem inBlock_eq (id : Nat) (K : List Item) (s : St) : den prog ann 21 (.inBlock id :: K) s = den prog ann 21 K s := den_inBlock hf id K s
theorem exit_eq (id : Nat) (K : List Item) (s : St) : den prog ann 21 (.code (.exit id) :: K) s = exitV prog ann 21 (exitTo id K) s := den_exitV hf id K s
theorem call_eq (v0 v1 : AV) (m : Mem) (h : closedL [v0, v1] = true) : denC prog ann 21 [v0, v1] m = (den prog ann 21 [.code b] ⟨[(0, v0), (1, v1)], 15, Mem.empty⟩).bind fun r => some (r.1, m) := (denC_pure hf (b := b) (by kernel_rfl) (by kernel_rfl) (by kernel_rfl) h m).trans (by kernel_rfl)
theorem pure_eq : (ann 21).pure = true := by kernel_rfl
attribute [simp] b_eq r0_eq r1_eq ret_eq nil_eq inBlock_eq exit_eq pure_eq
end r01_Same

namespace r01_Before
/-- pommel/pommelref01.Before -/
noncomputable def b : Code := (Try.f67.body).getD .skip
theorem hf : prog.funcs[67]? = some Try.f67 := by kernel_rfl
noncomputable def r0 : Code := findReg b 0
noncomputable def r1 : Code := findReg b 1
noncomputable def k0 : Code := findBlk b 0
noncomputable def l0 : Code := loopOf k0
noncomputable def L0 (x0 x1 x5 : AV) (m : Mem) (K : List Item) : Option Res := den prog ann 67 (.code l0 :: .inLoop l0 :: .inBlock 0 :: K) ⟨[(0, x0), (1, x1), (5, x5)], 41, m⟩
noncomputable def r2 : Code := findReg b 2
noncomputable def i0 : Code := findCond b 0
noncomputable def i0t : Code := thenOf i0
noncomputable def i0e : Code := elseOf i0
noncomputable def k1 : Code := findBlk b 1
noncomputable def r4 : Code := findReg b 4
noncomputable def i1 : Code := findCond b 1
noncomputable def i1t : Code := thenOf i1
noncomputable def i1e : Code := elseOf i1
noncomputable def r5 : Code := findReg b 5
noncomputable def r3 : Code := findReg b 3
noncomputable def r6 : Code := findReg b 6
theorem b_eq (K : List Item) (s : St) : den prog ann 67 (.code b :: K) s = den prog ann 67 (.code r0 :: .code r1 :: .code k0 :: .code r6 :: .code .ret :: K) s := den_flat hf (l := [r0, r1, k0, r6, .ret]) (by kernel_rfl) K s
theorem r0_eq (K : List Item) (s : St) : den prog ann 67 (.code r0 :: K) s = mreg prog ann 67 none [] none [] [
    ⟨some 4, none, .v fun s => some (.bool false)⟩] K s := (den_reg hf _ K s).trans (by kernel_rfl)
theorem r1_eq (K : List Item) (s : St) : den prog ann 67 (.code r1 :: K) s = mreg prog ann 67 none [] none [] [
    ⟨some 5, none, .v fun s => some (.int .i64 0)⟩] K s := (den_reg hf _ K s).trans (by kernel_rfl)
theorem k0_eq (K : List Item) (t : List (Nat × AV)) (m : Mem) : den prog ann 67 (.code k0 :: K) ⟨t, 41, m⟩ = L0 (get t 0) (get t 1) (get t 5) m K := den_loop_enter hf (b := l0) (id := 2) (l := [0, 1, 5]) (by kernel_rfl) (by kernel_rfl) (by kernel_rfl) K _
theorem l0_eq (K : List Item) (t : List (Nat × AV)) (m : Mem) : den prog ann 67 (.inLoop l0 :: .inBlock 0 :: K) ⟨t, 41, m⟩ = L0 (get t 0) (get t 1) (get t 5) m K := den_loop_again hf (id := 2) (l := [0, 1, 5]) (by kernel_rfl) (by kernel_rfl) (.inBlock 0 :: K) _
theorem L0_eq (x0 x1 x5 : AV) (m : Mem) (K : List Item) : L0 x0 x1 x5 m K = den prog ann 67 (.code r2 :: .code i0 :: .code k1 :: .code r3 :: .inLoop l0 :: .inBlock 0 :: K) ⟨[(0, x0), (1, x1), (5, x5)], 41, m⟩ := den_flat hf (l := [r2, i0, k1, r3]) (by kernel_rfl) _ _
theorem r2_eq (K : List Item) (s : St) : den prog ann 67 (.code r2 :: K) s = mreg prog ann 67 (some [0, 1, 5]) [] none [] [
    ⟨some 6, none, .v fun s => some (s.get 5)⟩,
    ⟨some 7, none, .v fun s => some (s.get 0)⟩,
    ⟨some 8, none, .v fun s => lenSl (s.get 7)⟩,
    ⟨some 9, none, .v fun s => binA prog .lss 3 (s.get 6) (s.get 8)⟩,
    ⟨some 10, none, .v fun s => some (s.get 9)⟩,
    ⟨some 11, some (10, true), .v fun s => some (s.get 5)⟩,
    ⟨some 12, some (10, true), .v fun s => some (s.get 1)⟩,
    ⟨some 13, some (10, true), .v fun s => lenSl (s.get 12)⟩,
    ⟨some 14, some (10, true), .v fun s => binA prog .lss 3 (s.get 11) (s.get 13)⟩,
    ⟨some 15, none, .v fun s => pickA (s.get 10) (s.get 14) (.bool false)⟩] K s := (den_reg hf _ K s).trans (by kernel_rfl)
theorem i0_eq (K : List Item) (s : St) : den prog ann 67 (.code i0 :: K) s = ifV prog ann 67 15 i0t i0e K s (s.get 15) := den_if hf (by kernel_rfl) K s
theorem i0t_eq (K : List Item) (s : St) : den prog ann 67 (.code i0t :: K) s = den prog ann 67 (K) s := den_flat hf (l := []) (by kernel_rfl) K s
theorem i0e_eq (K : List Item) (s : St) : den prog ann 67 (.code i0e :: K) s = den prog ann 67 (.code (.exit 0) :: K) s := den_flat hf (l := [(.exit 0)]) (by kernel_rfl) K s
theorem k1_eq (K : List Item) (s : St) : den prog ann 67 (.code k1 :: K) s = den prog ann 67 (.code r4 :: .code i1 :: .inBlock 1 :: K) s := den_blk hf (b := blkOf k1) (l := [r4, i1]) (by kernel_rfl) (by kernel_rfl) K s
theorem r4_draw : drawOk (fun g => (ann g).pure) (modeOf (ann 67) (idOf r4)) (frzOf (ann 67) (idOf r4)) (opsOf r4) = true := drawOk_of (an := [0, 0, 3, 7, 0, 0, 48, 112, 255]) (by kernel_rfl) (by kernel_rfl)
theorem r4_eq (K : List Item) (s : St) : den prog ann 67 (.code r4 :: K) s = mreg prog ann 67 none [] (some 9) [] [
    ⟨some 18, none, .v fun s => some (s.get 0)⟩,
    ⟨some 19, none, .v fun s => some (s.get 5)⟩,
    ⟨some 20, none, .v fun s => idxSl 1 (s.get 18) (s.get 19)⟩,
    ⟨some 21, none, .v fun s => loadF false 1 (s.get 20)⟩,
    ⟨some 22, none, .v fun s => some (s.get 1)⟩,
    ⟨some 23, none, .v fun s => some (s.get 5)⟩,
    ⟨some 24, none, .v fun s => idxSl 1 (s.get 22) (s.get 23)⟩,
    ⟨some 25, none, .v fun s => loadF false 1 (s.get 24)⟩,
    ⟨some 26, none, .v fun s => binA prog .neq 3 (s.get 21) (s.get 25)⟩] K s := (den_regD hf r4_draw K s).trans (by kernel_rfl)
theorem i1_eq (K : List Item) (s : St) : den prog ann 67 (.code i1 :: K) s = ifV prog ann 67 26 i1t i1e K s (s.get 26) := den_if hf (by kernel_rfl) K s
theorem i1t_eq (K : List Item) (s : St) : den prog ann 67 (.code i1t :: K) s = den prog ann 67 (.code r5 :: .code .ret :: K) s := den_flat hf (l := [r5, .ret]) (by kernel_rfl) K s
theorem r5_draw : drawOk (fun g => (ann g).pure) (modeOf (ann 67) (idOf r5)) (frzOf (ann 67) (idOf r5)) (opsOf r5) = true := drawOk_of (an := [0, 0, 3, 7, 0, 0, 48, 112, 255, 511]) (by kernel_rfl) (by kernel_rfl)
theorem r5_eq (K : List Item) (s : St) : den prog ann 67 (.code r5 :: K) s = mreg prog ann 67 none [] (some 10) [] [
    ⟨some 27, none, .v fun s => some (s.get 0)⟩,
    ⟨some 28, none, .v fun s => some (s.get 5)⟩,
    ⟨some 29, none, .v fun s => idxSl 1 (s.get 27) (s.get 28)⟩,
    ⟨some 30, none, .v fun s => loadF false 1 (s.get 29)⟩,
    ⟨some 31, none, .v fun s => some (s.get 1)⟩,
    ⟨some 32, none, .v fun s => some (s.get 5)⟩,
    ⟨some 33, none, .v fun s => idxSl 1 (s.get 31) (s.get 32)⟩,
    ⟨some 34, none, .v fun s => loadF false 1 (s.get 33)⟩,
    ⟨some 35, none, .v fun s => binA prog .lss 3 (s.get 30) (s.get 34)⟩,
    ⟨some 4, none, .v fun s => some (s.get 35)⟩] K s := (den_regD hf r5_draw K s).trans (by kernel_rfl)
theorem i1e_eq (K : List Item) (s : St) : den prog ann 67 (.code i1e :: K) s = den prog ann 67 (K) s := den_flat hf (l := []) (by kernel_rfl) K s
theorem r3_eq (K : List Item) (s : St) : den prog ann 67 (.code r3 :: K) s = mreg prog ann 67 (some [0, 1, 5]) [] none [] [
    ⟨some 16, none, .v fun s => some (s.get 5)⟩,
    ⟨some 17, none, .v fun s => binA prog .add 3 (s.get 16) (.int .i64 1)⟩,
    ⟨some 5, none, .v fun s => some (s.get 17)⟩] K s := (den_reg hf _ K s).trans (by kernel_rfl)
theorem r6_eq (K : List Item) (s : St) : den prog ann 67 (.code r6 :: K) s = mreg prog ann 67 (some [0, 1]) [] none [] [
    ⟨some 36, none, .v fun s => some (s.get 0)⟩,
    ⟨some 37, none, .v fun s => lenSl (s.get 36)⟩,
    ⟨some 38, none, .v fun s => some (s.get 1)⟩,
    ⟨some 39, none, .v fun s => lenSl (s.get 38)⟩,
    ⟨some 40, none, .v fun s => binA prog .lss 3 (s.get 37) (s.get 39)⟩,
    ⟨some 4, none, .v fun s => some (s.get 40)⟩] K s := (den_reg hf _ K s).trans (by kernel_rfl)
theorem ret_eq (K : List Item) (s : St) : den prog ann 67 (.code .ret :: K) s = finM true [fun s => some (s.get 4)] s := (den_ret hf K s).trans (by kernel_rfl)
theorem nil_eq (s : St) : den prog ann 67 [] s = finM true [fun s => some (s.get 4)] s := (den_nil hf s).trans (by kernel_rfl)
theorem inBlock_eq (id : Nat) (K : List Item) (s : St) : den prog ann 67 (.inBlock id :: K) s = den prog ann 67 K s := den_inBlock hf id K s
theorem exit_eq (id : Nat) (K : List Item) (s : St) : den prog ann 67 (.code (.exit id) :: K) s = exitV prog ann 67 (exitTo id K) s := den_exitV hf id K s
theorem call_eq (v0 v1 : AV) (m : Mem) (h : closedL [v0, v1] = true) : denC prog ann 67 [v0, v1] m = (den prog ann 67 [.code b] ⟨[(0, v0), (1, v1)], 41, Mem.empty⟩).bind fun r => some (r.1, m) := (denC_pure hf (b := b) (by kernel_rfl) (by kernel_rfl) (by kernel_rfl) h m).trans (by kernel_rfl)
theorem pure_eq : (ann 67).pure = true := by kernel_rfl
attribute [simp] b_eq r0_eq r1_eq k0_eq l0_eq r2_eq i0_eq i0t_eq i0e_eq k1_eq r4_eq i1_eq i1t_eq r5_eq i1e_eq r3_eq r6_eq ret_eq nil_eq inBlock_eq exit_eq pure_eq
end r01_Before

namespace r09_in
/-- pommel/pommelref09.in -/
noncomputable def b : Code := (Try.f64.body).getD .skip
theorem hf : prog.funcs[64]? = some Try.f64 := by kernel_rfl
noncomputable def r0 : Code := findReg b 0
noncomputable def r1 : Code := findReg b 1
theorem b_eq (K : List Item) (s : St) : den prog ann 64 (.code b :: K) s = den prog ann 64 (.code r0 :: .code r1 :: .code .ret :: K) s := den_flat hf (l := [r0, r1, .ret]) (by kernel_rfl) K s
theorem r0_eq (K : List Item) (s : St) : den prog ann 64 (.code r0 :: K) s = mreg prog ann 64 none [] none [] [
    ⟨some 6, none, .v fun s => some (.bool false)⟩] K s := (den_reg hf _ K s).trans (by kernel_rfl)
theorem r1_eq (K : List Item) (s : St) : den prog ann 64 (.code r1 :: K) s = mreg prog ann 64 none [] none [] [
    ⟨some 7, none, .v fun s => some (s.get 0)⟩,
    ⟨some 8, none, .v fun s => some (s.get 1)⟩,
    ⟨some 9, none, .v fun s => binA prog .geq 3 (s.get 7) (s.get 8)⟩,
    ⟨some 10, none, .v fun s => some (s.get 9)⟩,
    ⟨some 11, some (10, true), .v fun s => some (s.get 0)⟩,
    ⟨some 12, some (10, true), .v fun s => some (s.get 2)⟩,
    ⟨some 13, some (10, true), .v fun s => binA prog .leq 3 (s.get 11) (s.get 12)⟩,
    ⟨some 14, none, .v fun s => pickA (s.get 10) (s.get 13) (.bool false)⟩,
    ⟨some 6, none, .v fun s => some (s.get 14)⟩] K s := (den_reg hf _ K s).trans (by kernel_rfl)
theorem ret_eq (K : List Item) (s : St) : den prog ann 64 (.code .ret :: K) s = finM true [fun s => some (s.get 6)] s := (den_ret hf K s).trans (by kernel_rfl)
theorem nil_eq (s : St) : den prog ann 64 [] s = finM true [fun s => some (s.get 6)] s := (den_nil hf s).trans (by kernel_rfl)
theorem inBlock_eq (id : Nat) (K : List Item) (s : St) : den prog ann 64 (.inBlock id :: K) s = den prog ann 64 K s := den_inBlock hf id K s
theorem exit_eq (id : Nat) (K : List Item) (s : St) : den prog ann 64 (.code (.exit id) :: K) s = exitV prog ann 64 (exitTo id K) s := den_exitV hf id K s
theorem call_eq (v0 v1 v2 : AV) (m : Mem) (h : closedL [v0, v1, v2] = true) : denC prog ann 64 [v0, v1, v2] m = (den prog ann 64 [.code b] ⟨[(0, v0), (1, v1), (2, v2)], 15, Mem.empty⟩).bind fun r => some (r.1, m) := (denC_pure hf (b := b) (by kernel_rfl) (by kernel_rfl) (by kernel_rfl) h m).trans (by kernel_rfl)
theorem pure_eq : (ann 64).pure = true := by kernel_rfl
attribute [simp] b_eq r0_eq r1_eq ret_eq nil_eq inBlock_eq exit_eq pure_eq
end r09_in

namespace r09_Cut
/-- pommel/pommelref09.Cut -/
noncomputable def b : Code := (Try.f27.body).getD .skip
theorem hf : prog.funcs[27]? = some Try.f27 := by kernel_rfl
noncomputable def r0 : Code := findReg b 0
noncomputable def r1 : Code := findReg b 1
noncomputable def k0 : Code := findBlk b 0
noncomputable def l0 : Code := loopOf k0
noncomputable def L0 (x1 x2 x5 : AV) (m : Mem) (K : List Item) : Option Res := den prog ann 27 (.code l0 :: .inLoop l0 :: .inBlock 0 :: K) ⟨[(1, x1), (2, x2), (5, x5)], 37, m⟩
noncomputable def r2 : Code := findReg b 2
noncomputable def i0 : Code := findCond b 0
noncomputable def i0t : Code := thenOf i0
noncomputable def i0e : Code := elseOf i0
noncomputable def k1 : Code := findBlk b 1
noncomputable def r4 : Code := findReg b 4
noncomputable def i1 : Code := findCond b 1
noncomputable def i1t : Code := thenOf i1
noncomputable def i1e : Code := elseOf i1
noncomputable def r5 : Code := findReg b 5
noncomputable def r3 : Code := findReg b 3
noncomputable def r6 : Code := findReg b 6
theorem b_eq (K : List Item) (s : St) : den prog ann 27 (.code b :: K) s = den prog ann 27 (.code r0 :: .code r1 :: .code k0 :: .code r6 :: .code .ret :: K) s := den_flat hf (l := [r0, r1, k0, r6, .ret]) (by kernel_rfl) K s
theorem r0_eq (K : List Item) (s : St) : den prog ann 27 (.code r0 :: K) s = mreg prog ann 27 none [] none [] [
    ⟨some 2, none, .v fun s => frozenPtr (s.get 0)⟩,
    ⟨some 4, none, .v fun s => some (.bool false)⟩] K s := (den_reg hf _ K s).trans (by kernel_rfl)
theorem r1_eq (K : List Item) (s : St) : den prog ann 27 (.code r1 :: K) s = mreg prog ann 27 none [] none [] [
    ⟨some 5, none, .v fun s => some (.int .i64 0)⟩] K s := (den_reg hf _ K s).trans (by kernel_rfl)
theorem k0_eq (K : List Item) (t : List (Nat × AV)) (m : Mem) : den prog ann 27 (.code k0 :: K) ⟨t, 37, m⟩ = L0 (get t 1) (get t 2) (get t 5) m K := den_loop_enter hf (b := l0) (id := 2) (l := [1, 2, 5]) (by kernel_rfl) (by kernel_rfl) (by kernel_rfl) K _
theorem l0_eq (K : List Item) (t : List (Nat × AV)) (m : Mem) : den prog ann 27 (.inLoop l0 :: .inBlock 0 :: K) ⟨t, 37, m⟩ = L0 (get t 1) (get t 2) (get t 5) m K := den_loop_again hf (id := 2) (l := [1, 2, 5]) (by kernel_rfl) (by kernel_rfl) (.inBlock 0 :: K) _
theorem L0_eq (x1 x2 x5 : AV) (m : Mem) (K : List Item) : L0 x1 x2 x5 m K = den prog ann 27 (.code r2 :: .code i0 :: .code k1 :: .code r3 :: .inLoop l0 :: .inBlock 0 :: K) ⟨[(1, x1), (2, x2), (5, x5)], 37, m⟩ := den_flat hf (l := [r2, i0, k1, r3]) (by kernel_rfl) _ _
theorem r2_eq (K : List Item) (s : St) : den prog ann 27 (.code r2 :: K) s = mreg prog ann 27 (some [1, 2, 5]) [] none [] [
    ⟨some 6, none, .v fun s => some (s.get 5)⟩,
    ⟨some 7, none, .v fun s => some (s.get 1)⟩,
    ⟨some 8, none, .v fun s => lenSl (s.get 7)⟩,
    ⟨some 9, none, .v fun s => binA prog .lss 3 (s.get 6) (s.get 8)⟩,
    ⟨some 10, none, .v fun s => some (s.get 9)⟩,
    ⟨some 11, some (10, true), .v fun s => some (s.get 1)⟩,
    ⟨some 12, some (10, true), .v fun s => lenSl (s.get 11)⟩,
    ⟨some 13, some (10, true), .v fun s => fieldA 0 (s.get 2)⟩,
    ⟨some 14, some (10, true), .v fun s => loadF false 1 (s.get 13)⟩,
    ⟨some 15, some (10, true), .v fun s => lenSl (s.get 14)⟩,
    ⟨some 16, some (10, true), .v fun s => binA prog .eql 3 (s.get 12) (s.get 15)⟩,
    ⟨some 17, none, .v fun s => pickA (s.get 10) (s.get 16) (.bool false)⟩] K s := (den_reg hf _ K s).trans (by kernel_rfl)
theorem i0_eq (K : List Item) (s : St) : den prog ann 27 (.code i0 :: K) s = ifV prog ann 27 17 i0t i0e K s (s.get 17) := den_if hf (by kernel_rfl) K s
theorem i0t_eq (K : List Item) (s : St) : den prog ann 27 (.code i0t :: K) s = den prog ann 27 (K) s := den_flat hf (l := []) (by kernel_rfl) K s
theorem i0e_eq (K : List Item) (s : St) : den prog ann 27 (.code i0e :: K) s = den prog ann 27 (.code (.exit 0) :: K) s := den_flat hf (l := [(.exit 0)]) (by kernel_rfl) K s
theorem k1_eq (K : List Item) (s : St) : den prog ann 27 (.code k1 :: K) s = den prog ann 27 (.code r4 :: .code i1 :: .inBlock 1 :: K) s := den_blk hf (b := blkOf k1) (l := [r4, i1]) (by kernel_rfl) (by kernel_rfl) K s
theorem r4_draw : drawOk (fun g => (ann g).pure) (modeOf (ann 27) (idOf r4)) (frzOf (ann 27) (idOf r4)) (opsOf r4) = true := drawOk_of (an := [0, 0, 3, 7, 0, 16, 0, 112, 240, 511, 1023]) (by kernel_rfl) (by kernel_rfl)
theorem r4_eq (K : List Item) (s : St) : den prog ann 27 (.code r4 :: K) s = mreg prog ann 27 none [] (some 11) [] [
    ⟨some 20, none, .v fun s => some (s.get 1)⟩,
    ⟨some 21, none, .v fun s => some (s.get 5)⟩,
    ⟨some 22, none, .v fun s => idxSl 1 (s.get 20) (s.get 21)⟩,
    ⟨some 23, none, .v fun s => loadF false 1 (s.get 22)⟩,
    ⟨some 24, none, .v fun s => fieldA 0 (s.get 2)⟩,
    ⟨some 25, none, .v fun s => loadF false 1 (s.get 24)⟩,
    ⟨some 26, none, .v fun s => some (s.get 5)⟩,
    ⟨some 27, none, .v fun s => idxSl 1 (s.get 25) (s.get 26)⟩,
    ⟨some 28, none, .v fun s => loadF false 1 (s.get 27)⟩,
    ⟨some 29, none, .c 0 (fun s => (.fn 64 [] [])) fun s => [(s.get 23), (.int .i64 0), (s.get 28)]⟩,
    ⟨some 30, none, .v fun s => unA .not (s.get 29)⟩] K s := (den_regD hf r4_draw K s).trans (by kernel_rfl)
theorem i1_eq (K : List Item) (s : St) : den prog ann 27 (.code i1 :: K) s = ifV prog ann 27 30 i1t i1e K s (s.get 30) := den_if hf (by kernel_rfl) K s
theorem i1t_eq (K : List Item) (s : St) : den prog ann 27 (.code i1t :: K) s = den prog ann 27 (.code r5 :: .code .ret :: K) s := den_flat hf (l := [r5, .ret]) (by kernel_rfl) K s
theorem r5_eq (K : List Item) (s : St) : den prog ann 27 (.code r5 :: K) s = mreg prog ann 27 none [] none [] [
    ⟨some 4, none, .v fun s => some (.bool false)⟩] K s := (den_reg hf _ K s).trans (by kernel_rfl)
theorem i1e_eq (K : List Item) (s : St) : den prog ann 27 (.code i1e :: K) s = den prog ann 27 (K) s := den_flat hf (l := []) (by kernel_rfl) K s
theorem r3_eq (K : List Item) (s : St) : den prog ann 27 (.code r3 :: K) s = mreg prog ann 27 (some [1, 2, 5]) [] none [] [
    ⟨some 18, none, .v fun s => some (s.get 5)⟩,
    ⟨some 19, none, .v fun s => binA prog .add 3 (s.get 18) (.int .i64 1)⟩,
    ⟨some 5, none, .v fun s => some (s.get 19)⟩] K s := (den_reg hf _ K s).trans (by kernel_rfl)
theorem r6_eq (K : List Item) (s : St) : den prog ann 27 (.code r6 :: K) s = mreg prog ann 27 (some [1, 2]) [] none [] [
    ⟨some 31, none, .v fun s => some (s.get 1)⟩,
    ⟨some 32, none, .v fun s => lenSl (s.get 31)⟩,
    ⟨some 33, none, .v fun s => fieldA 0 (s.get 2)⟩,
    ⟨some 34, none, .v fun s => loadF false 1 (s.get 33)⟩,
    ⟨some 35, none, .v fun s => lenSl (s.get 34)⟩,
    ⟨some 36, none, .v fun s => binA prog .eql 3 (s.get 32) (s.get 35)⟩,
    ⟨some 4, none, .v fun s => some (s.get 36)⟩] K s := (den_reg hf _ K s).trans (by kernel_rfl)
theorem ret_eq (K : List Item) (s : St) : den prog ann 27 (.code .ret :: K) s = finM true [fun s => some (s.get 4)] s := (den_ret hf K s).trans (by kernel_rfl)
theorem nil_eq (s : St) : den prog ann 27 [] s = finM true [fun s => some (s.get 4)] s := (den_nil hf s).trans (by kernel_rfl)
theorem inBlock_eq (id : Nat) (K : List Item) (s : St) : den prog ann 27 (.inBlock id :: K) s = den prog ann 27 K s := den_inBlock hf id K s
theorem exit_eq (id : Nat) (K : List Item) (s : St) : den prog ann 27 (.code (.exit id) :: K) s = exitV prog ann 27 (exitTo id K) s := den_exitV hf id K s
theorem call_eq (v0 v1 : AV) (m : Mem) (h : closedL [v0, v1] = true) : denC prog ann 27 [v0, v1] m = (den prog ann 27 [.code b] ⟨[(0, v0), (1, v1)], 37, Mem.empty⟩).bind fun r => some (r.1, m) := (denC_pure hf (b := b) (by kernel_rfl) (by kernel_rfl) (by kernel_rfl) h m).trans (by kernel_rfl)
theorem pure_eq : (ann 27).pure = true := by kernel_rfl
attribute [simp] b_eq r0_eq r1_eq k0_eq l0_eq r2_eq i0_eq i0t_eq i0e_eq k1_eq r4_eq i1_eq i1t_eq r5_eq i1e_eq r3_eq r6_eq ret_eq nil_eq inBlock_eq exit_eq pure_eq
end r09_Cut




namespace r09_Consistent
/-- pommel/pommelref09.Consistent -/
noncomputable def b : Code := (Try.f66.body).getD .skip
theorem hf : prog.funcs[66]? = some Try.f66 := by kernel_rfl
noncomputable def r0 : Code := findReg b 0
noncomputable def r1 : Code := findReg b 1
noncomputable def k0 : Code := findBlk b 0
noncomputable def l0 : Code := loopOf k0
noncomputable def L0 (x1 x2 x5 : AV) (m : Mem) (K : List Item) : Option Res := den prog ann 66 (.code l0 :: .inLoop l0 :: .inBlock 0 :: K) ⟨[(1, x1), (2, x2), (5, x5)], 37, m⟩
noncomputable def r2 : Code := findReg b 2
noncomputable def i0 : Code := findCond b 0
noncomputable def i0t : Code := thenOf i0
noncomputable def i0e : Code := elseOf i0
noncomputable def k1 : Code := findBlk b 1
noncomputable def r4 : Code := findReg b 4
noncomputable def r5 : Code := findReg b 5
noncomputable def i1 : Code := findCond b 1
noncomputable def i1t : Code := thenOf i1
noncomputable def i1e : Code := elseOf i1
noncomputable def r6 : Code := findReg b 6
noncomputable def r3 : Code := findReg b 3
noncomputable def r7 : Code := findReg b 7
theorem b_eq (K : List Item) (s : St) : den prog ann 66 (.code b :: K) s = den prog ann 66 (.code r0 :: .code r1 :: .code k0 :: .code r7 :: .code .ret :: K) s := den_flat hf (l := [r0, r1, k0, r7, .ret]) (by kernel_rfl) K s
theorem r0_eq (K : List Item) (s : St) : den prog ann 66 (.code r0 :: K) s = mreg prog ann 66 none [] none [] [
    ⟨some 2, none, .v fun s => frozenPtr (s.get 0)⟩,
    ⟨some 4, none, .v fun s => some (.bool false)⟩] K s := (den_reg hf _ K s).trans (by kernel_rfl)
theorem r1_eq (K : List Item) (s : St) : den prog ann 66 (.code r1 :: K) s = mreg prog ann 66 none [] none [] [
    ⟨some 5, none, .v fun s => some (.int .i64 0)⟩] K s := (den_reg hf _ K s).trans (by kernel_rfl)
theorem k0_eq (K : List Item) (t : List (Nat × AV)) (m : Mem) : den prog ann 66 (.code k0 :: K) ⟨t, 37, m⟩ = L0 (get t 1) (get t 2) (get t 5) m K := den_loop_enter hf (b := l0) (id := 2) (l := [1, 2, 5]) (by kernel_rfl) (by kernel_rfl) (by kernel_rfl) K _
theorem l0_eq (K : List Item) (t : List (Nat × AV)) (m : Mem) : den prog ann 66 (.inLoop l0 :: .inBlock 0 :: K) ⟨t, 37, m⟩ = L0 (get t 1) (get t 2) (get t 5) m K := den_loop_again hf (id := 2) (l := [1, 2, 5]) (by kernel_rfl) (by kernel_rfl) (.inBlock 0 :: K) _
theorem L0_eq (x1 x2 x5 : AV) (m : Mem) (K : List Item) : L0 x1 x2 x5 m K = den prog ann 66 (.code r2 :: .code i0 :: .code k1 :: .code r3 :: .inLoop l0 :: .inBlock 0 :: K) ⟨[(1, x1), (2, x2), (5, x5)], 37, m⟩ := den_flat hf (l := [r2, i0, k1, r3]) (by kernel_rfl) _ _
theorem r2_eq (K : List Item) (s : St) : den prog ann 66 (.code r2 :: K) s = mreg prog ann 66 (some [1, 2, 5]) [] none [] [
    ⟨some 7, none, .v fun s => some (s.get 5)⟩,
    ⟨some 8, none, .v fun s => fieldA 1 (s.get 2)⟩,
    ⟨some 9, none, .v fun s => loadF false 1 (s.get 8)⟩,
    ⟨some 10, none, .v fun s => lenSl (s.get 9)⟩,
    ⟨some 11, none, .v fun s => binA prog .lss 3 (s.get 7) (s.get 10)⟩] K s := (den_reg hf _ K s).trans (by kernel_rfl)
theorem i0_eq (K : List Item) (s : St) : den prog ann 66 (.code i0 :: K) s = ifV prog ann 66 11 i0t i0e K s (s.get 11) := den_if hf (by kernel_rfl) K s
theorem i0t_eq (K : List Item) (s : St) : den prog ann 66 (.code i0t :: K) s = den prog ann 66 (K) s := den_flat hf (l := []) (by kernel_rfl) K s
theorem i0e_eq (K : List Item) (s : St) : den prog ann 66 (.code i0e :: K) s = den prog ann 66 (.code (.exit 0) :: K) s := den_flat hf (l := [(.exit 0)]) (by kernel_rfl) K s
theorem k1_eq (K : List Item) (s : St) : den prog ann 66 (.code k1 :: K) s = den prog ann 66 (.code r4 :: .code r5 :: .code i1 :: .inBlock 1 :: K) s := den_blk hf (b := blkOf k1) (l := [r4, r5, i1]) (by kernel_rfl) (by kernel_rfl) K s
theorem r4_eq (K : List Item) (s : St) : den prog ann 66 (.code r4 :: K) s = mreg prog ann 66 none [] none [6] [
    ⟨some 14, none, .v fun s => fieldA 1 (s.get 2)⟩,
    ⟨some 15, none, .v fun s => loadF false 1 (s.get 14)⟩,
    ⟨some 16, none, .v fun s => some (s.get 5)⟩,
    ⟨some 17, none, .v fun s => idxSl 4 (s.get 15) (s.get 16)⟩,
    ⟨some 18, none, .v fun s => loadF true 4 (s.get 17)⟩,
    ⟨some 6, none, .w false none fun s => newPtr s.m [.int .i64 0, .int .i64 0, .int .i64 0, .int .i64 0]⟩,
    ⟨none, none, .w false none fun s => stA true 4 s.m (s.get 6) (s.get 18)⟩] K s := (den_reg hf _ K s).trans (by kernel_rfl)
theorem r5_draw : drawOk (fun g => (ann g).pure) (modeOf (ann 66) (idOf r5)) (frzOf (ann 66) (idOf r5)) (opsOf r5) = true := drawOk_of (an := [0, 0, 2, 7, 15, 0, 32, 127, 255, 511, 511, 1535, 4095, 8191, 511, 16895, 65535, 131071]) (by kernel_rfl) (by kernel_rfl)
theorem r5_eq (K : List Item) (s : St) : den prog ann 66 (.code r5 :: K) s = mreg prog ann 66 none [] (some 18) [] [
    ⟨some 19, none, .v fun s => some (s.get 1)⟩,
    ⟨some 20, none, .v fun s => fieldA 2 (s.get 6)⟩,
    ⟨some 21, none, .v fun s => loadF false 1 (s.get 20)⟩,
    ⟨some 22, none, .v fun s => idxSl 1 (s.get 19) (s.get 21)⟩,
    ⟨some 23, none, .v fun s => loadF false 1 (s.get 22)⟩,
    ⟨some 24, none, .v fun s => fieldA 3 (s.get 6)⟩,
    ⟨some 25, none, .v fun s => loadF false 1 (s.get 24)⟩,
    ⟨some 26, none, .v fun s => binA prog .geq 3 (s.get 23) (s.get 25)⟩,
    ⟨some 27, none, .v fun s => some (s.get 26)⟩,
    ⟨some 28, some (27, true), .v fun s => some (s.get 1)⟩,
    ⟨some 29, some (27, true), .v fun s => fieldA 0 (s.get 6)⟩,
    ⟨some 30, some (27, true), .v fun s => loadF false 1 (s.get 29)⟩,
    ⟨some 31, some (27, true), .v fun s => idxSl 1 (s.get 28) (s.get 30)⟩,
    ⟨some 32, some (27, true), .v fun s => loadF false 1 (s.get 31)⟩,
    ⟨some 33, some (27, true), .v fun s => fieldA 1 (s.get 6)⟩,
    ⟨some 34, some (27, true), .v fun s => loadF false 1 (s.get 33)⟩,
    ⟨some 35, some (27, true), .v fun s => binA prog .lss 3 (s.get 32) (s.get 34)⟩,
    ⟨some 36, none, .v fun s => pickA (s.get 27) (s.get 35) (.bool false)⟩] K s := (den_regD hf r5_draw K s).trans (by kernel_rfl)
theorem i1_eq (K : List Item) (s : St) : den prog ann 66 (.code i1 :: K) s = ifV prog ann 66 36 i1t i1e K s (s.get 36) := den_if hf (by kernel_rfl) K s
theorem i1t_eq (K : List Item) (s : St) : den prog ann 66 (.code i1t :: K) s = den prog ann 66 (.code r6 :: .code .ret :: K) s := den_flat hf (l := [r6, .ret]) (by kernel_rfl) K s
theorem r6_eq (K : List Item) (s : St) : den prog ann 66 (.code r6 :: K) s = mreg prog ann 66 none [] none [] [
    ⟨some 4, none, .v fun s => some (.bool false)⟩] K s := (den_reg hf _ K s).trans (by kernel_rfl)
theorem i1e_eq (K : List Item) (s : St) : den prog ann 66 (.code i1e :: K) s = den prog ann 66 (K) s := den_flat hf (l := []) (by kernel_rfl) K s
theorem r3_eq (K : List Item) (s : St) : den prog ann 66 (.code r3 :: K) s = mreg prog ann 66 (some [1, 2, 5]) [] none [] [
    ⟨some 12, none, .v fun s => some (s.get 5)⟩,
    ⟨some 13, none, .v fun s => binA prog .add 3 (s.get 12) (.int .i64 1)⟩,
    ⟨some 5, none, .v fun s => some (s.get 13)⟩] K s := (den_reg hf _ K s).trans (by kernel_rfl)
theorem r7_eq (K : List Item) (s : St) : den prog ann 66 (.code r7 :: K) s = mreg prog ann 66 (some []) [] none [] [
    ⟨some 4, none, .v fun s => some (.bool true)⟩] K s := (den_reg hf _ K s).trans (by kernel_rfl)
theorem ret_eq (K : List Item) (s : St) : den prog ann 66 (.code .ret :: K) s = finM true [fun s => some (s.get 4)] s := (den_ret hf K s).trans (by kernel_rfl)
theorem nil_eq (s : St) : den prog ann 66 [] s = finM true [fun s => some (s.get 4)] s := (den_nil hf s).trans (by kernel_rfl)
theorem inBlock_eq (id : Nat) (K : List Item) (s : St) : den prog ann 66 (.inBlock id :: K) s = den prog ann 66 K s := den_inBlock hf id K s
theorem exit_eq (id : Nat) (K : List Item) (s : St) : den prog ann 66 (.code (.exit id) :: K) s = exitV prog ann 66 (exitTo id K) s := den_exitV hf id K s
theorem call_eq (v0 v1 : AV) (m : Mem) (h : closedL [v0, v1] = true) : denC prog ann 66 [v0, v1] m = (den prog ann 66 [.code b] ⟨[(0, v0), (1, v1)], 37, Mem.empty⟩).bind fun r => some (r.1, m) := (denC_pure hf (b := b) (by kernel_rfl) (by kernel_rfl) (by kernel_rfl) h m).trans (by kernel_rfl)
theorem pure_eq : (ann 66).pure = true := by kernel_rfl
attribute [simp] b_eq r0_eq r1_eq k0_eq l0_eq r2_eq i0_eq i0t_eq i0e_eq k1_eq r4_eq r5_eq i1_eq i1t_eq r6_eq i1e_eq r3_eq r7_eq ret_eq nil_eq inBlock_eq exit_eq pure_eq
end r09_Consistent

namespace r09_ready
/-- pommel/pommelref09.ready -/
noncomputable def b : Code := (Try.f65.body).getD .skip
theorem hf : prog.funcs[65]? = some Try.f65 := by kernel_rfl
noncomputable def r0 : Code := findReg b 0
noncomputable def r1 : Code := findReg b 1
noncomputable def k0 : Code := findBlk b 0
noncomputable def l0 : Code := loopOf k0
noncomputable def L0 (x1 x2 x3 x7 : AV) (m : Mem) (K : List Item) : Option Res := den prog ann 65 (.code l0 :: .inLoop l0 :: .inBlock 0 :: K) ⟨[(1, x1), (2, x2), (3, x3), (7, x7)], 45, m⟩
noncomputable def r2 : Code := findReg b 2
noncomputable def i0 : Code := findCond b 0
noncomputable def i0t : Code := thenOf i0
noncomputable def i0e : Code := elseOf i0
noncomputable def k1 : Code := findBlk b 1
noncomputable def r4 : Code := findReg b 4
noncomputable def r5 : Code := findReg b 5
noncomputable def i1 : Code := findCond b 1
noncomputable def i1t : Code := thenOf i1
noncomputable def i1e : Code := elseOf i1
noncomputable def r6 : Code := findReg b 6
noncomputable def r3 : Code := findReg b 3
noncomputable def r7 : Code := findReg b 7
theorem b_eq (K : List Item) (s : St) : den prog ann 65 (.code b :: K) s = den prog ann 65 (.code r0 :: .code r1 :: .code k0 :: .code r7 :: .code .ret :: K) s := den_flat hf (l := [r0, r1, k0, r7, .ret]) (by kernel_rfl) K s
theorem r0_eq (K : List Item) (s : St) : den prog ann 65 (.code r0 :: K) s = mreg prog ann 65 none [] none [] [
    ⟨some 3, none, .v fun s => frozenPtr (s.get 0)⟩,
    ⟨some 6, none, .v fun s => some (.bool false)⟩] K s := (den_reg hf _ K s).trans (by kernel_rfl)
theorem r1_eq (K : List Item) (s : St) : den prog ann 65 (.code r1 :: K) s = mreg prog ann 65 none [] none [] [
    ⟨some 7, none, .v fun s => some (.int .i64 0)⟩] K s := (den_reg hf _ K s).trans (by kernel_rfl)
theorem k0_eq (K : List Item) (t : List (Nat × AV)) (m : Mem) : den prog ann 65 (.code k0 :: K) ⟨t, 45, m⟩ = L0 (get t 1) (get t 2) (get t 3) (get t 7) m K := den_loop_enter hf (b := l0) (id := 2) (l := [1, 2, 3, 7]) (by kernel_rfl) (by kernel_rfl) (by kernel_rfl) K _
theorem l0_eq (K : List Item) (t : List (Nat × AV)) (m : Mem) : den prog ann 65 (.inLoop l0 :: .inBlock 0 :: K) ⟨t, 45, m⟩ = L0 (get t 1) (get t 2) (get t 3) (get t 7) m K := den_loop_again hf (id := 2) (l := [1, 2, 3, 7]) (by kernel_rfl) (by kernel_rfl) (.inBlock 0 :: K) _
theorem L0_eq (x1 x2 x3 x7 : AV) (m : Mem) (K : List Item) : L0 x1 x2 x3 x7 m K = den prog ann 65 (.code r2 :: .code i0 :: .code k1 :: .code r3 :: .inLoop l0 :: .inBlock 0 :: K) ⟨[(1, x1), (2, x2), (3, x3), (7, x7)], 45, m⟩ := den_flat hf (l := [r2, i0, k1, r3]) (by kernel_rfl) _ _
theorem r2_eq (K : List Item) (s : St) : den prog ann 65 (.code r2 :: K) s = mreg prog ann 65 (some [1, 2, 3, 7]) [] none [] [
    ⟨some 9, none, .v fun s => some (s.get 7)⟩,
    ⟨some 10, none, .v fun s => fieldA 1 (s.get 3)⟩,
    ⟨some 11, none, .v fun s => loadF false 1 (s.get 10)⟩,
    ⟨some 12, none, .v fun s => lenSl (s.get 11)⟩,
    ⟨some 13, none, .v fun s => binA prog .lss 3 (s.get 9) (s.get 12)⟩] K s := (den_reg hf _ K s).trans (by kernel_rfl)
theorem i0_eq (K : List Item) (s : St) : den prog ann 65 (.code i0 :: K) s = ifV prog ann 65 13 i0t i0e K s (s.get 13) := den_if hf (by kernel_rfl) K s
theorem i0t_eq (K : List Item) (s : St) : den prog ann 65 (.code i0t :: K) s = den prog ann 65 (K) s := den_flat hf (l := []) (by kernel_rfl) K s
theorem i0e_eq (K : List Item) (s : St) : den prog ann 65 (.code i0e :: K) s = den prog ann 65 (.code (.exit 0) :: K) s := den_flat hf (l := [(.exit 0)]) (by kernel_rfl) K s
theorem k1_eq (K : List Item) (s : St) : den prog ann 65 (.code k1 :: K) s = den prog ann 65 (.code r4 :: .code r5 :: .code i1 :: .inBlock 1 :: K) s := den_blk hf (b := blkOf k1) (l := [r4, r5, i1]) (by kernel_rfl) (by kernel_rfl) K s
theorem r4_eq (K : List Item) (s : St) : den prog ann 65 (.code r4 :: K) s = mreg prog ann 65 none [] none [8] [
    ⟨some 16, none, .v fun s => fieldA 1 (s.get 3)⟩,
    ⟨some 17, none, .v fun s => loadF false 1 (s.get 16)⟩,
    ⟨some 18, none, .v fun s => some (s.get 7)⟩,
    ⟨some 19, none, .v fun s => idxSl 4 (s.get 17) (s.get 18)⟩,
    ⟨some 20, none, .v fun s => loadF true 4 (s.get 19)⟩,
    ⟨some 8, none, .w false none fun s => newPtr s.m [.int .i64 0, .int .i64 0, .int .i64 0, .int .i64 0]⟩,
    ⟨none, none, .w false none fun s => stA true 4 s.m (s.get 8) (s.get 20)⟩] K s := (den_reg hf _ K s).trans (by kernel_rfl)
theorem r5_draw : drawOk (fun g => (ann g).pure) (modeOf (ann 65) (idOf r5)) (frzOf (ann 65) (idOf r5)) (opsOf r5) = true := drawOk_of (an := [0, 1, 0, 7, 15, 31, 63, 31, 31, 415, 927, 1951, 4095, 8191, 16383, 32767, 32767, 98303, 262143, 524287, 32767, 1081343, 4194303, 8388607]) (by kernel_rfl) (by kernel_rfl)
theorem r5_eq (K : List Item) (s : St) : den prog ann 65 (.code r5 :: K) s = mreg prog ann 65 none [] (some 24) [] [
    ⟨some 21, none, .v fun s => fieldA 2 (s.get 8)⟩,
    ⟨some 22, none, .v fun s => loadF false 1 (s.get 21)⟩,
    ⟨some 23, none, .v fun s => some (s.get 2)⟩,
    ⟨some 24, none, .v fun s => binA prog .eql 3 (s.get 22) (s.get 23)⟩,
    ⟨some 25, none, .v fun s => some (s.get 24)⟩,
    ⟨some 26, some (25, true), .v fun s => fieldA 3 (s.get 8)⟩,
    ⟨some 27, some (25, true), .v fun s => loadF false 1 (s.get 26)⟩,
    ⟨some 28, some (25, true), .v fun s => some (s.get 1)⟩,
    ⟨some 29, some (25, true), .v fun s => some (s.get 2)⟩,
    ⟨some 30, some (25, true), .v fun s => idxSl 1 (s.get 28) (s.get 29)⟩,
    ⟨some 31, some (25, true), .v fun s => loadF false 1 (s.get 30)⟩,
    ⟨some 32, some (25, true), .v fun s => binA prog .add 3 (s.get 31) (.int .i64 1)⟩,
    ⟨some 33, some (25, true), .v fun s => binA prog .eql 3 (s.get 27) (s.get 32)⟩,
    ⟨some 34, none, .v fun s => pickA (s.get 25) (s.get 33) (.bool false)⟩,
    ⟨some 35, none, .v fun s => some (s.get 34)⟩,
    ⟨some 36, some (35, true), .v fun s => some (s.get 1)⟩,
    ⟨some 37, some (35, true), .v fun s => fieldA 0 (s.get 8)⟩,
    ⟨some 38, some (35, true), .v fun s => loadF false 1 (s.get 37)⟩,
    ⟨some 39, some (35, true), .v fun s => idxSl 1 (s.get 36) (s.get 38)⟩,
    ⟨some 40, some (35, true), .v fun s => loadF false 1 (s.get 39)⟩,
    ⟨some 41, some (35, true), .v fun s => fieldA 1 (s.get 8)⟩,
    ⟨some 42, some (35, true), .v fun s => loadF false 1 (s.get 41)⟩,
    ⟨some 43, some (35, true), .v fun s => binA prog .lss 3 (s.get 40) (s.get 42)⟩,
    ⟨some 44, none, .v fun s => pickA (s.get 35) (s.get 43) (.bool false)⟩] K s := (den_regD hf r5_draw K s).trans (by kernel_rfl)
theorem i1_eq (K : List Item) (s : St) : den prog ann 65 (.code i1 :: K) s = ifV prog ann 65 44 i1t i1e K s (s.get 44) := den_if hf (by kernel_rfl) K s
theorem i1t_eq (K : List Item) (s : St) : den prog ann 65 (.code i1t :: K) s = den prog ann 65 (.code r6 :: .code .ret :: K) s := den_flat hf (l := [r6, .ret]) (by kernel_rfl) K s
theorem r6_eq (K : List Item) (s : St) : den prog ann 65 (.code r6 :: K) s = mreg prog ann 65 none [] none [] [
    ⟨some 6, none, .v fun s => some (.bool false)⟩] K s := (den_reg hf _ K s).trans (by kernel_rfl)
theorem i1e_eq (K : List Item) (s : St) : den prog ann 65 (.code i1e :: K) s = den prog ann 65 (K) s := den_flat hf (l := []) (by kernel_rfl) K s
theorem r3_eq (K : List Item) (s : St) : den prog ann 65 (.code r3 :: K) s = mreg prog ann 65 (some [1, 2, 3, 7]) [] none [] [
    ⟨some 14, none, .v fun s => some (s.get 7)⟩,
    ⟨some 15, none, .v fun s => binA prog .add 3 (s.get 14) (.int .i64 1)⟩,
    ⟨some 7, none, .v fun s => some (s.get 15)⟩] K s := (den_reg hf _ K s).trans (by kernel_rfl)
theorem r7_eq (K : List Item) (s : St) : den prog ann 65 (.code r7 :: K) s = mreg prog ann 65 (some []) [] none [] [
    ⟨some 6, none, .v fun s => some (.bool true)⟩] K s := (den_reg hf _ K s).trans (by kernel_rfl)
theorem ret_eq (K : List Item) (s : St) : den prog ann 65 (.code .ret :: K) s = finM true [fun s => some (s.get 6)] s := (den_ret hf K s).trans (by kernel_rfl)
theorem nil_eq (s : St) : den prog ann 65 [] s = finM true [fun s => some (s.get 6)] s := (den_nil hf s).trans (by kernel_rfl)
theorem inBlock_eq (id : Nat) (K : List Item) (s : St) : den prog ann 65 (.inBlock id :: K) s = den prog ann 65 K s := den_inBlock hf id K s
theorem exit_eq (id : Nat) (K : List Item) (s : St) : den prog ann 65 (.code (.exit id) :: K) s = exitV prog ann 65 (exitTo id K) s := den_exitV hf id K s
theorem call_eq (v0 v1 v2 : AV) (m : Mem) (h : closedL [v0, v1, v2] = true) : denC prog ann 65 [v0, v1, v2] m = (den prog ann 65 [.code b] ⟨[(0, v0), (1, v1), (2, v2)], 45, Mem.empty⟩).bind fun r => some (r.1, m) := (denC_pure hf (b := b) (by kernel_rfl) (by kernel_rfl) (by kernel_rfl) h m).trans (by kernel_rfl)
theorem pure_eq : (ann 65).pure = true := by kernel_rfl
attribute [simp] b_eq r0_eq r1_eq k0_eq l0_eq r2_eq i0_eq i0t_eq i0e_eq k1_eq r4_eq r5_eq i1_eq i1t_eq r6_eq i1e_eq r3_eq r7_eq ret_eq nil_eq inBlock_eq exit_eq pure_eq
end r09_ready


namespace r09_Valid
/-- pommel/pommelref09.Valid -/
noncomputable def b : Code := (Try.f19.body).getD .skip
theorem hf : prog.funcs[19]? = some Try.f19 := by kernel_rfl
noncomputable def r0 : Code := findReg b 0
noncomputable def r1 : Code := findReg b 1
noncomputable def k0 : Code := findBlk b 0
noncomputable def l0 : Code := loopOf k0
noncomputable def L0 (x1 x3 : AV) (m : Mem) (K : List Item) : Option Res := den prog ann 19 (.code l0 :: .inLoop l0 :: .inBlock 0 :: K) ⟨[(1, x1), (3, x3)], 132, m⟩
noncomputable def r2 : Code := findReg b 2
noncomputable def i0 : Code := findCond b 0
noncomputable def i0t : Code := thenOf i0
noncomputable def i0e : Code := elseOf i0
noncomputable def k1 : Code := findBlk b 1
noncomputable def r4 : Code := findReg b 4
noncomputable def i1 : Code := findCond b 1
noncomputable def i1t : Code := thenOf i1
noncomputable def i1e : Code := elseOf i1
noncomputable def r5 : Code := findReg b 5
noncomputable def r3 : Code := findReg b 3
noncomputable def r6 : Code := findReg b 6
noncomputable def i2 : Code := findCond b 2
noncomputable def i2t : Code := thenOf i2
noncomputable def i2e : Code := elseOf i2
noncomputable def r7 : Code := findReg b 7
noncomputable def r8 : Code := findReg b 8
noncomputable def k2 : Code := findBlk b 2
noncomputable def l2 : Code := loopOf k2
noncomputable def L2 (x1 x4 : AV) (m : Mem) (K : List Item) : Option Res := den prog ann 19 (.code l2 :: .inLoop l2 :: .inBlock 2 :: K) ⟨[(1, x1), (4, x4)], 132, m⟩
noncomputable def r9 : Code := findReg b 9
noncomputable def i3 : Code := findCond b 3
noncomputable def i3t : Code := thenOf i3
noncomputable def i3e : Code := elseOf i3
noncomputable def k3 : Code := findBlk b 3
noncomputable def r11 : Code := findReg b 11
noncomputable def r12 : Code := findReg b 12
noncomputable def i4 : Code := findCond b 4
noncomputable def i4t : Code := thenOf i4
noncomputable def i4e : Code := elseOf i4
noncomputable def r13 : Code := findReg b 13
noncomputable def r10 : Code := findReg b 10
noncomputable def r14 : Code := findReg b 14
noncomputable def r15 : Code := findReg b 15
noncomputable def k4 : Code := findBlk b 4
noncomputable def l4 : Code := loopOf k4
noncomputable def L4 (x1 x6 x7 : AV) (m : Mem) (K : List Item) : Option Res := den prog ann 19 (.code l4 :: .inLoop l4 :: .inBlock 4 :: K) ⟨[(1, x1), (6, x6), (7, x7)], 132, m⟩
noncomputable def r16 : Code := findReg b 16
noncomputable def i5 : Code := findCond b 5
noncomputable def i5t : Code := thenOf i5
noncomputable def i5e : Code := elseOf i5
noncomputable def k5 : Code := findBlk b 5
noncomputable def r17 : Code := findReg b 17
noncomputable def r18 : Code := findReg b 18
noncomputable def k6 : Code := findBlk b 6
noncomputable def l6 : Code := loopOf k6
noncomputable def L6 (x1 x6 x7 x8 : AV) (m : Mem) (K : List Item) : Option Res := den prog ann 19 (.code l6 :: .inLoop l6 :: .inBlock 6 :: K) ⟨[(1, x1), (6, x6), (7, x7), (8, x8)], 132, m⟩
noncomputable def r19 : Code := findReg b 19
noncomputable def i6 : Code := findCond b 6
noncomputable def i6t : Code := thenOf i6
noncomputable def i6e : Code := elseOf i6
noncomputable def k7 : Code := findBlk b 7
noncomputable def r21 : Code := findReg b 21
noncomputable def i7 : Code := findCond b 7
noncomputable def i7t : Code := thenOf i7
noncomputable def i7e : Code := elseOf i7
noncomputable def r22 : Code := findReg b 22
noncomputable def r23 : Code := findReg b 23
noncomputable def r20 : Code := findReg b 20
noncomputable def r24 : Code := findReg b 24
theorem b_eq (K : List Item) (s : St) : den prog ann 19 (.code b :: K) s = den prog ann 19 (.code r0 :: .code r1 :: .code k0 :: .code r6 :: .code i2 :: .code r8 :: .code k2 :: .code r14 :: .code r15 :: .code k4 :: .code r24 :: .code .ret :: K) s := den_flat hf (l := [r0, r1, k0, r6, i2, r8, k2, r14, r15, k4, r24, .ret]) (by kernel_rfl) K s
theorem r0_eq (K : List Item) (s : St) : den prog ann 19 (.code r0 :: K) s = mreg prog ann 19 none [] none [] [
    ⟨some 1, none, .v fun s => frozenPtr (s.get 0)⟩,
    ⟨some 2, none, .v fun s => some (.bool false)⟩] K s := (den_reg hf _ K s).trans (by kernel_rfl)
theorem r1_eq (K : List Item) (s : St) : den prog ann 19 (.code r1 :: K) s = mreg prog ann 19 none [] none [] [
    ⟨some 3, none, .v fun s => some (.int .i64 0)⟩] K s := (den_reg hf _ K s).trans (by kernel_rfl)
theorem k0_eq (K : List Item) (t : List (Nat × AV)) (m : Mem) : den prog ann 19 (.code k0 :: K) ⟨t, 132, m⟩ = L0 (get t 1) (get t 3) m K := den_loop_enter hf (b := l0) (id := 2) (l := [1, 3]) (by kernel_rfl) (by kernel_rfl) (by kernel_rfl) K _
theorem l0_eq (K : List Item) (t : List (Nat × AV)) (m : Mem) : den prog ann 19 (.inLoop l0 :: .inBlock 0 :: K) ⟨t, 132, m⟩ = L0 (get t 1) (get t 3) m K := den_loop_again hf (id := 2) (l := [1, 3]) (by kernel_rfl) (by kernel_rfl) (.inBlock 0 :: K) _
theorem L0_eq (x1 x3 : AV) (m : Mem) (K : List Item) : L0 x1 x3 m K = den prog ann 19 (.code r2 :: .code i0 :: .code k1 :: .code r3 :: .inLoop l0 :: .inBlock 0 :: K) ⟨[(1, x1), (3, x3)], 132, m⟩ := den_flat hf (l := [r2, i0, k1, r3]) (by kernel_rfl) _ _
theorem r2_eq (K : List Item) (s : St) : den prog ann 19 (.code r2 :: K) s = mreg prog ann 19 (some [1, 3]) [] none [] [
    ⟨some 9, none, .v fun s => some (s.get 3)⟩,
    ⟨some 10, none, .v fun s => fieldA 0 (s.get 1)⟩,
    ⟨some 11, none, .v fun s => loadF false 1 (s.get 10)⟩,
    ⟨some 12, none, .v fun s => lenSl (s.get 11)⟩,
    ⟨some 13, none, .v fun s => binA prog .lss 3 (s.get 9) (s.get 12)⟩] K s := (den_reg hf _ K s).trans (by kernel_rfl)
theorem i0_eq (K : List Item) (s : St) : den prog ann 19 (.code i0 :: K) s = ifV prog ann 19 13 i0t i0e K s (s.get 13) := den_if hf (by kernel_rfl) K s
theorem i0t_eq (K : List Item) (s : St) : den prog ann 19 (.code i0t :: K) s = den prog ann 19 (K) s := den_flat hf (l := []) (by kernel_rfl) K s
theorem i0e_eq (K : List Item) (s : St) : den prog ann 19 (.code i0e :: K) s = den prog ann 19 (.code (.exit 0) :: K) s := den_flat hf (l := [(.exit 0)]) (by kernel_rfl) K s
theorem k1_eq (K : List Item) (s : St) : den prog ann 19 (.code k1 :: K) s = den prog ann 19 (.code r4 :: .code i1 :: .inBlock 1 :: K) s := den_blk hf (b := blkOf k1) (l := [r4, i1]) (by kernel_rfl) (by kernel_rfl) K s
theorem r4_eq (K : List Item) (s : St) : den prog ann 19 (.code r4 :: K) s = mreg prog ann 19 none [] none [] [
    ⟨some 16, none, .v fun s => fieldA 0 (s.get 1)⟩,
    ⟨some 17, none, .v fun s => loadF false 1 (s.get 16)⟩,
    ⟨some 18, none, .v fun s => some (s.get 3)⟩,
    ⟨some 19, none, .v fun s => idxSl 1 (s.get 17) (s.get 18)⟩,
    ⟨some 20, none, .v fun s => loadF false 1 (s.get 19)⟩,
    ⟨some 21, none, .c 0 (fun s => (.fn 64 [] [])) fun s => [(s.get 20), (.int .i64 0), (.int .i64 6)]⟩,
    ⟨some 22, none, .v fun s => unA .not (s.get 21)⟩] K s := (den_reg hf _ K s).trans (by kernel_rfl)
theorem i1_eq (K : List Item) (s : St) : den prog ann 19 (.code i1 :: K) s = ifV prog ann 19 22 i1t i1e K s (s.get 22) := den_if hf (by kernel_rfl) K s
theorem i1t_eq (K : List Item) (s : St) : den prog ann 19 (.code i1t :: K) s = den prog ann 19 (.code r5 :: .code .ret :: K) s := den_flat hf (l := [r5, .ret]) (by kernel_rfl) K s
theorem r5_eq (K : List Item) (s : St) : den prog ann 19 (.code r5 :: K) s = mreg prog ann 19 none [] none [] [
    ⟨some 2, none, .v fun s => some (.bool false)⟩] K s := (den_reg hf _ K s).trans (by kernel_rfl)
theorem i1e_eq (K : List Item) (s : St) : den prog ann 19 (.code i1e :: K) s = den prog ann 19 (K) s := den_flat hf (l := []) (by kernel_rfl) K s
theorem r3_eq (K : List Item) (s : St) : den prog ann 19 (.code r3 :: K) s = mreg prog ann 19 (some [1, 3]) [] none [] [
    ⟨some 14, none, .v fun s => some (s.get 3)⟩,
    ⟨some 15, none, .v fun s => binA prog .add 3 (s.get 14) (.int .i64 1)⟩,
    ⟨some 3, none, .v fun s => some (s.get 15)⟩] K s := (den_reg hf _ K s).trans (by kernel_rfl)
theorem r6_eq (K : List Item) (s : St) : den prog ann 19 (.code r6 :: K) s = mreg prog ann 19 (some [1]) [] none [] [
    ⟨some 23, none, .v fun s => fieldA 0 (s.get 1)⟩,
    ⟨some 24, none, .v fun s => loadF false 1 (s.get 23)⟩,
    ⟨some 25, none, .v fun s => lenSl (s.get 24)⟩,
    ⟨some 26, none, .c 0 (fun s => (.fn 64 [] [])) fun s => [(s.get 25), (.int .i64 1), (.int .i64 4)]⟩,
    ⟨some 27, none, .v fun s => unA .not (s.get 26)⟩,
    ⟨some 28, none, .v fun s => some (s.get 27)⟩,
    ⟨some 29, some (28, false), .v fun s => fieldA 1 (s.get 1)⟩,
    ⟨some 30, some (28, false), .v fun s => loadF false 1 (s.get 29)⟩,
    ⟨some 31, some (28, false), .v fun s => lenSl (s.get 30)⟩,
    ⟨some 32, some (28, false), .v fun s => binA prog .gtr 3 (s.get 31) (.int .i64 24)⟩,
    ⟨some 33, none, .v fun s => pickA (s.get 28) (.bool true) (s.get 32)⟩] K s := (den_reg hf _ K s).trans (by kernel_rfl)
theorem i2_eq (K : List Item) (s : St) : den prog ann 19 (.code i2 :: K) s = ifV prog ann 19 33 i2t i2e K s (s.get 33) := den_if hf (by kernel_rfl) K s
theorem i2t_eq (K : List Item) (s : St) : den prog ann 19 (.code i2t :: K) s = den prog ann 19 (.code r7 :: .code .ret :: K) s := den_flat hf (l := [r7, .ret]) (by kernel_rfl) K s
theorem r7_eq (K : List Item) (s : St) : den prog ann 19 (.code r7 :: K) s = mreg prog ann 19 none [] none [] [
    ⟨some 2, none, .v fun s => some (.bool false)⟩] K s := (den_reg hf _ K s).trans (by kernel_rfl)
theorem i2e_eq (K : List Item) (s : St) : den prog ann 19 (.code i2e :: K) s = den prog ann 19 (K) s := den_flat hf (l := []) (by kernel_rfl) K s
theorem r8_eq (K : List Item) (s : St) : den prog ann 19 (.code r8 :: K) s = mreg prog ann 19 none [] none [] [
    ⟨some 4, none, .v fun s => some (.int .i64 0)⟩] K s := (den_reg hf _ K s).trans (by kernel_rfl)
theorem k2_eq (K : List Item) (t : List (Nat × AV)) (m : Mem) : den prog ann 19 (.code k2 :: K) ⟨t, 132, m⟩ = L2 (get t 1) (get t 4) m K := den_loop_enter hf (b := l2) (id := 9) (l := [1, 4]) (by kernel_rfl) (by kernel_rfl) (by kernel_rfl) K _
theorem l2_eq (K : List Item) (t : List (Nat × AV)) (m : Mem) : den prog ann 19 (.inLoop l2 :: .inBlock 2 :: K) ⟨t, 132, m⟩ = L2 (get t 1) (get t 4) m K := den_loop_again hf (id := 9) (l := [1, 4]) (by kernel_rfl) (by kernel_rfl) (.inBlock 2 :: K) _
theorem L2_eq (x1 x4 : AV) (m : Mem) (K : List Item) : L2 x1 x4 m K = den prog ann 19 (.code r9 :: .code i3 :: .code k3 :: .code r10 :: .inLoop l2 :: .inBlock 2 :: K) ⟨[(1, x1), (4, x4)], 132, m⟩ := den_flat hf (l := [r9, i3, k3, r10]) (by kernel_rfl) _ _
theorem r9_eq (K : List Item) (s : St) : den prog ann 19 (.code r9 :: K) s = mreg prog ann 19 (some [1, 4]) [] none [] [
    ⟨some 34, none, .v fun s => some (s.get 4)⟩,
    ⟨some 35, none, .v fun s => fieldA 1 (s.get 1)⟩,
    ⟨some 36, none, .v fun s => loadF false 1 (s.get 35)⟩,
    ⟨some 37, none, .v fun s => lenSl (s.get 36)⟩,
    ⟨some 38, none, .v fun s => binA prog .lss 3 (s.get 34) (s.get 37)⟩] K s := (den_reg hf _ K s).trans (by kernel_rfl)
theorem i3_eq (K : List Item) (s : St) : den prog ann 19 (.code i3 :: K) s = ifV prog ann 19 38 i3t i3e K s (s.get 38) := den_if hf (by kernel_rfl) K s
theorem i3t_eq (K : List Item) (s : St) : den prog ann 19 (.code i3t :: K) s = den prog ann 19 (K) s := den_flat hf (l := []) (by kernel_rfl) K s
theorem i3e_eq (K : List Item) (s : St) : den prog ann 19 (.code i3e :: K) s = den prog ann 19 (.code (.exit 2) :: K) s := den_flat hf (l := [(.exit 2)]) (by kernel_rfl) K s
theorem k3_eq (K : List Item) (s : St) : den prog ann 19 (.code k3 :: K) s = den prog ann 19 (.code r11 :: .code r12 :: .code i4 :: .inBlock 3 :: K) s := den_blk hf (b := blkOf k3) (l := [r11, r12, i4]) (by kernel_rfl) (by kernel_rfl) K s
theorem r11_eq (K : List Item) (s : St) : den prog ann 19 (.code r11 :: K) s = mreg prog ann 19 none [] none [5] [
    ⟨some 41, none, .v fun s => fieldA 1 (s.get 1)⟩,
    ⟨some 42, none, .v fun s => loadF false 1 (s.get 41)⟩,
    ⟨some 43, none, .v fun s => some (s.get 4)⟩,
    ⟨some 44, none, .v fun s => idxSl 4 (s.get 42) (s.get 43)⟩,
    ⟨some 45, none, .v fun s => loadF true 4 (s.get 44)⟩,
    ⟨some 5, none, .w false none fun s => newPtr s.m [.int .i64 0, .int .i64 0, .int .i64 0, .int .i64 0]⟩,
    ⟨none, none, .w false none fun s => stA true 4 s.m (s.get 5) (s.get 45)⟩] K s := (den_reg hf _ K s).trans (by kernel_rfl)
theorem r12_draw : drawOk (fun g => (ann g).pure) (modeOf (ann 19) (idOf r12)) (frzOf (ann 19) (idOf r12)) (opsOf r12) = true := drawOk_of (an := [0, 1, 0, 4, 12, 28, 63, 127, 255, 511, 1023, 511, 2559, 6655, 14847, 32767, 65535, 131071, 262143, 524287, 1048575, 524287, 2621439, 8388607, 16777215, 33554431, 67108863, 134217727, 67108863, 335544319, 67108863, 1140850687, 4093640703, 8388607999, 17179869183, 34359738367, 68719476735, 137438953471, 274877906943, 549755813887, 274877906943, 1374389534719, 274877906943, 4672924418047, 16767552323583, 34359738367999, 70368744177663, 140737488355327, 281474976710655]) (by kernel_rfl) (by kernel_rfl)
theorem r12_eq (K : List Item) (s : St) : den prog ann 19 (.code r12 :: K) s = mreg prog ann 19 none [] (some 49) [] [
    ⟨some 46, none, .v fun s => fieldA 0 (s.get 5)⟩,
    ⟨some 47, none, .v fun s => loadF false 1 (s.get 46)⟩,
    ⟨some 48, none, .v fun s => fieldA 0 (s.get 1)⟩,
    ⟨some 49, none, .v fun s => loadF false 1 (s.get 48)⟩,
    ⟨some 50, none, .v fun s => lenSl (s.get 49)⟩,
    ⟨some 51, none, .v fun s => binA prog .sub 3 (s.get 50) (.int .i64 1)⟩,
    ⟨some 52, none, .c 0 (fun s => (.fn 64 [] [])) fun s => [(s.get 47), (.int .i64 0), (s.get 51)]⟩,
    ⟨some 53, none, .v fun s => unA .not (s.get 52)⟩,
    ⟨some 54, none, .v fun s => some (s.get 53)⟩,
    ⟨some 55, some (54, false), .v fun s => fieldA 2 (s.get 5)⟩,
    ⟨some 56, some (54, false), .v fun s => loadF false 1 (s.get 55)⟩,
    ⟨some 57, some (54, false), .v fun s => fieldA 0 (s.get 1)⟩,
    ⟨some 58, some (54, false), .v fun s => loadF false 1 (s.get 57)⟩,
    ⟨some 59, some (54, false), .v fun s => lenSl (s.get 58)⟩,
    ⟨some 60, some (54, false), .v fun s => binA prog .sub 3 (s.get 59) (.int .i64 1)⟩,
    ⟨some 61, some (54, false), .c 0 (fun s => (.fn 64 [] [])) fun s => [(s.get 56), (.int .i64 0), (s.get 60)]⟩,
    ⟨some 62, some (54, false), .v fun s => unA .not (s.get 61)⟩,
    ⟨some 63, none, .v fun s => pickA (s.get 54) (.bool true) (s.get 62)⟩,
    ⟨some 64, none, .v fun s => some (s.get 63)⟩,
    ⟨some 65, some (64, false), .v fun s => fieldA 0 (s.get 5)⟩,
    ⟨some 66, some (64, false), .v fun s => loadF false 1 (s.get 65)⟩,
    ⟨some 67, some (64, false), .v fun s => fieldA 2 (s.get 5)⟩,
    ⟨some 68, some (64, false), .v fun s => loadF false 1 (s.get 67)⟩,
    ⟨some 69, some (64, false), .v fun s => binA prog .eql 3 (s.get 66) (s.get 68)⟩,
    ⟨some 70, none, .v fun s => pickA (s.get 64) (.bool true) (s.get 69)⟩,
    ⟨some 71, none, .v fun s => some (s.get 70)⟩,
    ⟨some 72, some (71, false), .v fun s => fieldA 1 (s.get 5)⟩,
    ⟨some 73, some (71, false), .v fun s => loadF false 1 (s.get 72)⟩,
    ⟨some 74, some (71, false), .v fun s => fieldA 0 (s.get 1)⟩,
    ⟨some 75, some (71, false), .v fun s => loadF false 1 (s.get 74)⟩,
    ⟨some 76, some (71, false), .v fun s => fieldA 0 (s.get 5)⟩,
    ⟨some 77, some (71, false), .v fun s => loadF false 1 (s.get 76)⟩,
    ⟨some 78, some (71, false), .v fun s => idxSl 1 (s.get 75) (s.get 77)⟩,
    ⟨some 79, some (71, false), .v fun s => loadF false 1 (s.get 78)⟩,
    ⟨some 80, some (71, false), .c 0 (fun s => (.fn 64 [] [])) fun s => [(s.get 73), (.int .i64 1), (s.get 79)]⟩,
    ⟨some 81, some (71, false), .v fun s => unA .not (s.get 80)⟩,
    ⟨some 82, none, .v fun s => pickA (s.get 71) (.bool true) (s.get 81)⟩,
    ⟨some 83, none, .v fun s => some (s.get 82)⟩,
    ⟨some 84, some (83, false), .v fun s => fieldA 3 (s.get 5)⟩,
    ⟨some 85, some (83, false), .v fun s => loadF false 1 (s.get 84)⟩,
    ⟨some 86, some (83, false), .v fun s => fieldA 0 (s.get 1)⟩,
    ⟨some 87, some (83, false), .v fun s => loadF false 1 (s.get 86)⟩,
    ⟨some 88, some (83, false), .v fun s => fieldA 2 (s.get 5)⟩,
    ⟨some 89, some (83, false), .v fun s => loadF false 1 (s.get 88)⟩,
    ⟨some 90, some (83, false), .v fun s => idxSl 1 (s.get 87) (s.get 89)⟩,
    ⟨some 91, some (83, false), .v fun s => loadF false 1 (s.get 90)⟩,
    ⟨some 92, some (83, false), .c 0 (fun s => (.fn 64 [] [])) fun s => [(s.get 85), (.int .i64 1), (s.get 91)]⟩,
    ⟨some 93, some (83, false), .v fun s => unA .not (s.get 92)⟩,
    ⟨some 94, none, .v fun s => pickA (s.get 83) (.bool true) (s.get 93)⟩] K s := (den_regD hf r12_draw K s).trans (by kernel_rfl)
theorem i4_eq (K : List Item) (s : St) : den prog ann 19 (.code i4 :: K) s = ifV prog ann 19 94 i4t i4e K s (s.get 94) := den_if hf (by kernel_rfl) K s
theorem i4t_eq (K : List Item) (s : St) : den prog ann 19 (.code i4t :: K) s = den prog ann 19 (.code r13 :: .code .ret :: K) s := den_flat hf (l := [r13, .ret]) (by kernel_rfl) K s
theorem r13_eq (K : List Item) (s : St) : den prog ann 19 (.code r13 :: K) s = mreg prog ann 19 none [] none [] [
    ⟨some 2, none, .v fun s => some (.bool false)⟩] K s := (den_reg hf _ K s).trans (by kernel_rfl)
theorem i4e_eq (K : List Item) (s : St) : den prog ann 19 (.code i4e :: K) s = den prog ann 19 (K) s := den_flat hf (l := []) (by kernel_rfl) K s
theorem r10_eq (K : List Item) (s : St) : den prog ann 19 (.code r10 :: K) s = mreg prog ann 19 (some [1, 4]) [] none [] [
    ⟨some 39, none, .v fun s => some (s.get 4)⟩,
    ⟨some 40, none, .v fun s => binA prog .add 3 (s.get 39) (.int .i64 1)⟩,
    ⟨some 4, none, .v fun s => some (s.get 40)⟩] K s := (den_reg hf _ K s).trans (by kernel_rfl)
theorem r14_eq (K : List Item) (s : St) : den prog ann 19 (.code r14 :: K) s = mreg prog ann 19 (some [1]) [] none [] [
    ⟨some 95, none, .v fun s => fieldA 0 (s.get 1)⟩,
    ⟨some 96, none, .v fun s => loadF false 1 (s.get 95)⟩,
    ⟨some 97, none, .v fun s => lenSl (s.get 96)⟩,
    ⟨some 98, none, .w false none fun s => makeA 1 8 (.int .i64 0) s.m (s.get 97) (s.get 97)⟩,
    ⟨some 6, none, .v fun s => some (s.get 98)⟩] K s := (den_reg hf _ K s).trans (by kernel_rfl)
theorem r15_eq (K : List Item) (s : St) : den prog ann 19 (.code r15 :: K) s = mreg prog ann 19 none [] none [] [
    ⟨some 7, none, .v fun s => some (.bool true)⟩] K s := (den_reg hf _ K s).trans (by kernel_rfl)
theorem k4_eq (K : List Item) (t : List (Nat × AV)) (m : Mem) : den prog ann 19 (.code k4 :: K) ⟨t, 132, m⟩ = L4 (get t 1) (get t 6) (get t 7) m K := den_loop_enter hf (b := l4) (id := 16) (l := [1, 6, 7]) (by kernel_rfl) (by kernel_rfl) (by kernel_rfl) K _
theorem l4_eq (K : List Item) (t : List (Nat × AV)) (m : Mem) : den prog ann 19 (.inLoop l4 :: .inBlock 4 :: K) ⟨t, 132, m⟩ = L4 (get t 1) (get t 6) (get t 7) m K := den_loop_again hf (id := 16) (l := [1, 6, 7]) (by kernel_rfl) (by kernel_rfl) (.inBlock 4 :: K) _
theorem L4_eq (x1 x6 x7 : AV) (m : Mem) (K : List Item) : L4 x1 x6 x7 m K = den prog ann 19 (.code r16 :: .code i5 :: .code k5 :: .inLoop l4 :: .inBlock 4 :: K) ⟨[(1, x1), (6, x6), (7, x7)], 132, m⟩ := den_flat hf (l := [r16, i5, k5]) (by kernel_rfl) _ _
theorem r16_eq (K : List Item) (s : St) : den prog ann 19 (.code r16 :: K) s = mreg prog ann 19 (some [1, 6, 7]) [] none [] [
    ⟨some 99, none, .v fun s => some (s.get 7)⟩] K s := (den_reg hf _ K s).trans (by kernel_rfl)
theorem i5_eq (K : List Item) (s : St) : den prog ann 19 (.code i5 :: K) s = ifV prog ann 19 99 i5t i5e K s (s.get 99) := den_if hf (by kernel_rfl) K s
theorem i5t_eq (K : List Item) (s : St) : den prog ann 19 (.code i5t :: K) s = den prog ann 19 (K) s := den_flat hf (l := []) (by kernel_rfl) K s
theorem i5e_eq (K : List Item) (s : St) : den prog ann 19 (.code i5e :: K) s = den prog ann 19 (.code (.exit 4) :: K) s := den_flat hf (l := [(.exit 4)]) (by kernel_rfl) K s
theorem k5_eq (K : List Item) (s : St) : den prog ann 19 (.code k5 :: K) s = den prog ann 19 (.code r17 :: .code r18 :: .code k6 :: .inBlock 5 :: K) s := den_blk hf (b := blkOf k5) (l := [r17, r18, k6]) (by kernel_rfl) (by kernel_rfl) K s
theorem r17_eq (K : List Item) (s : St) : den prog ann 19 (.code r17 :: K) s = mreg prog ann 19 none [] none [] [
    ⟨some 7, none, .v fun s => some (.bool false)⟩] K s := (den_reg hf _ K s).trans (by kernel_rfl)
theorem r18_eq (K : List Item) (s : St) : den prog ann 19 (.code r18 :: K) s = mreg prog ann 19 none [] none [] [
    ⟨some 8, none, .v fun s => some (.int .i64 0)⟩] K s := (den_reg hf _ K s).trans (by kernel_rfl)
theorem k6_eq (K : List Item) (t : List (Nat × AV)) (m : Mem) : den prog ann 19 (.code k6 :: K) ⟨t, 132, m⟩ = L6 (get t 1) (get t 6) (get t 7) (get t 8) m K := den_loop_enter hf (b := l6) (id := 19) (l := [1, 6, 7, 8]) (by kernel_rfl) (by kernel_rfl) (by kernel_rfl) K _
theorem l6_eq (K : List Item) (t : List (Nat × AV)) (m : Mem) : den prog ann 19 (.inLoop l6 :: .inBlock 6 :: K) ⟨t, 132, m⟩ = L6 (get t 1) (get t 6) (get t 7) (get t 8) m K := den_loop_again hf (id := 19) (l := [1, 6, 7, 8]) (by kernel_rfl) (by kernel_rfl) (.inBlock 6 :: K) _
theorem L6_eq (x1 x6 x7 x8 : AV) (m : Mem) (K : List Item) : L6 x1 x6 x7 x8 m K = den prog ann 19 (.code r19 :: .code i6 :: .code k7 :: .code r20 :: .inLoop l6 :: .inBlock 6 :: K) ⟨[(1, x1), (6, x6), (7, x7), (8, x8)], 132, m⟩ := den_flat hf (l := [r19, i6, k7, r20]) (by kernel_rfl) _ _
theorem r19_eq (K : List Item) (s : St) : den prog ann 19 (.code r19 :: K) s = mreg prog ann 19 (some [1, 6, 7, 8]) [] none [] [
    ⟨some 100, none, .v fun s => some (s.get 8)⟩,
    ⟨some 101, none, .v fun s => some (s.get 6)⟩,
    ⟨some 102, none, .v fun s => lenSl (s.get 101)⟩,
    ⟨some 103, none, .v fun s => binA prog .lss 3 (s.get 100) (s.get 102)⟩] K s := (den_reg hf _ K s).trans (by kernel_rfl)
theorem i6_eq (K : List Item) (s : St) : den prog ann 19 (.code i6 :: K) s = ifV prog ann 19 103 i6t i6e K s (s.get 103) := den_if hf (by kernel_rfl) K s
theorem i6t_eq (K : List Item) (s : St) : den prog ann 19 (.code i6t :: K) s = den prog ann 19 (K) s := den_flat hf (l := []) (by kernel_rfl) K s
theorem i6e_eq (K : List Item) (s : St) : den prog ann 19 (.code i6e :: K) s = den prog ann 19 (.code (.exit 6) :: K) s := den_flat hf (l := [(.exit 6)]) (by kernel_rfl) K s
theorem k7_eq (K : List Item) (s : St) : den prog ann 19 (.code k7 :: K) s = den prog ann 19 (.code r21 :: .code i7 :: .inBlock 7 :: K) s := den_blk hf (b := blkOf k7) (l := [r21, i7]) (by kernel_rfl) (by kernel_rfl) K s
theorem r21_draw : drawOk (fun g => (ann g).pure) (modeOf (ann 19) (idOf r21)) (frzOf (ann 19) (idOf r21)) (opsOf r21) = true := drawOk_of (an := [0, 0, 3, 7, 0, 16, 0, 112, 240, 511, 1023, 2047, 2047, 2047, 16383, 32767]) (by kernel_rfl) (by kernel_rfl)
theorem r21_eq (K : List Item) (s : St) : den prog ann 19 (.code r21 :: K) s = mreg prog ann 19 none [] (some 16) [] [
    ⟨some 106, none, .v fun s => some (s.get 6)⟩,
    ⟨some 107, none, .v fun s => some (s.get 8)⟩,
    ⟨some 108, none, .v fun s => idxSl 1 (s.get 106) (s.get 107)⟩,
    ⟨some 109, none, .v fun s => loadA false 1 s.m (s.get 108)⟩,
    ⟨some 110, none, .v fun s => fieldA 0 (s.get 1)⟩,
    ⟨some 111, none, .v fun s => loadF false 1 (s.get 110)⟩,
    ⟨some 112, none, .v fun s => some (s.get 8)⟩,
    ⟨some 113, none, .v fun s => idxSl 1 (s.get 111) (s.get 112)⟩,
    ⟨some 114, none, .v fun s => loadF false 1 (s.get 113)⟩,
    ⟨some 115, none, .v fun s => binA prog .lss 3 (s.get 109) (s.get 114)⟩,
    ⟨some 116, none, .v fun s => some (s.get 115)⟩,
    ⟨some 117, some (116, true), .v fun s => loadF true 2 (s.get 1)⟩,
    ⟨some 118, some (116, true), .v fun s => some (s.get 6)⟩,
    ⟨some 119, some (116, true), .v fun s => some (s.get 8)⟩,
    ⟨some 120, some (116, true), .c 0 (fun s => (.fn 65 [] [])) fun s => [(s.get 117), (s.get 118), (s.get 119)]⟩,
    ⟨some 121, none, .v fun s => pickA (s.get 116) (s.get 120) (.bool false)⟩] K s := (den_regD hf r21_draw K s).trans (by kernel_rfl)
theorem i7_eq (K : List Item) (s : St) : den prog ann 19 (.code i7 :: K) s = ifV prog ann 19 121 i7t i7e K s (s.get 121) := den_if hf (by kernel_rfl) K s
theorem i7t_eq (K : List Item) (s : St) : den prog ann 19 (.code i7t :: K) s = den prog ann 19 (.code r22 :: .code r23 :: K) s := den_flat hf (l := [r22, r23]) (by kernel_rfl) K s
theorem r22_eq (K : List Item) (s : St) : den prog ann 19 (.code r22 :: K) s = mreg prog ann 19 none [] none [] [
    ⟨some 122, none, .v fun s => some (s.get 6)⟩,
    ⟨some 123, none, .v fun s => some (s.get 8)⟩,
    ⟨some 124, none, .v fun s => idxSl 1 (s.get 122) (s.get 123)⟩,
    ⟨some 125, none, .v fun s => loadA false 1 s.m (s.get 124)⟩,
    ⟨some 126, none, .v fun s => binA prog .add 3 (s.get 125) (.int .i64 1)⟩,
    ⟨some 127, none, .v fun s => idxSl 1 (s.get 122) (s.get 123)⟩,
    ⟨none, none, .w false none fun s => stA false 1 s.m (s.get 127) (s.get 126)⟩] K s := (den_reg hf _ K s).trans (by kernel_rfl)
theorem r23_eq (K : List Item) (s : St) : den prog ann 19 (.code r23 :: K) s = mreg prog ann 19 none [] none [] [
    ⟨some 7, none, .v fun s => some (.bool true)⟩] K s := (den_reg hf _ K s).trans (by kernel_rfl)
theorem i7e_eq (K : List Item) (s : St) : den prog ann 19 (.code i7e :: K) s = den prog ann 19 (K) s := den_flat hf (l := []) (by kernel_rfl) K s
theorem r20_eq (K : List Item) (s : St) : den prog ann 19 (.code r20 :: K) s = mreg prog ann 19 (some [1, 6, 7, 8]) [] none [] [
    ⟨some 104, none, .v fun s => some (s.get 8)⟩,
    ⟨some 105, none, .v fun s => binA prog .add 3 (s.get 104) (.int .i64 1)⟩,
    ⟨some 8, none, .v fun s => some (s.get 105)⟩] K s := (den_reg hf _ K s).trans (by kernel_rfl)
theorem r24_eq (K : List Item) (s : St) : den prog ann 19 (.code r24 :: K) s = mreg prog ann 19 (some [1, 6]) [] none [] [
    ⟨some 128, none, .v fun s => some (s.get 6)⟩,
    ⟨some 129, none, .v fun s => fieldA 0 (s.get 1)⟩,
    ⟨some 130, none, .v fun s => loadF false 1 (s.get 129)⟩,
    ⟨some 131, none, .c 0 (fun s => (.fn 21 [] [])) fun s => [(s.get 128), (s.get 130)]⟩,
    ⟨some 2, none, .v fun s => some (s.get 131)⟩] K s := (den_reg hf _ K s).trans (by kernel_rfl)
theorem ret_eq (K : List Item) (s : St) : den prog ann 19 (.code .ret :: K) s = finM true [fun s => some (s.get 2)] s := (den_ret hf K s).trans (by kernel_rfl)
theorem nil_eq (s : St) : den prog ann 19 [] s = finM true [fun s => some (s.get 2)] s := (den_nil hf s).trans (by kernel_rfl)
theorem inBlock_eq (id : Nat) (K : List Item) (s : St) : den prog ann 19 (.inBlock id :: K) s = den prog ann 19 K s := den_inBlock hf id K s
theorem exit_eq (id : Nat) (K : List Item) (s : St) : den prog ann 19 (.code (.exit id) :: K) s = exitV prog ann 19 (exitTo id K) s := den_exitV hf id K s
theorem call_eq (v0 : AV) (m : Mem) (h : closedL [v0] = true) : denC prog ann 19 [v0] m = (den prog ann 19 [.code b] ⟨[(0, v0)], 132, Mem.empty⟩).bind fun r => some (r.1, m) := (denC_pure hf (b := b) (by kernel_rfl) (by kernel_rfl) (by kernel_rfl) h m).trans (by kernel_rfl)
theorem pure_eq : (ann 19).pure = true := by kernel_rfl
attribute [simp] b_eq r0_eq r1_eq k0_eq l0_eq r2_eq i0_eq i0t_eq i0e_eq k1_eq r4_eq i1_eq i1t_eq r5_eq i1e_eq r3_eq r6_eq i2_eq i2t_eq r7_eq i2e_eq r8_eq k2_eq l2_eq r9_eq i3_eq i3t_eq i3e_eq k3_eq r11_eq r12_eq i4_eq i4t_eq r13_eq i4e_eq r10_eq r14_eq r15_eq k4_eq l4_eq r16_eq i5_eq i5t_eq i5e_eq k5_eq r17_eq r18_eq k6_eq l6_eq r19_eq i6_eq i6t_eq i6e_eq k7_eq r21_eq i7_eq i7t_eq r22_eq r23_eq i7e_eq r20_eq r24_eq ret_eq nil_eq inBlock_eq exit_eq pure_eq
end r09_Valid
end Go.Proofs.Ytdkmepjedjclkaa

/-
  WHAT THE REFERENCE's SMALL FUNCTIONS COMPUTE: the order of lists, the same list. Conditions: none.
-/
namespace Go.Proofs.Ytdkmepjedjclkaa
open Go.AM
open Go.Proofs.Try (prog)
set_option linter.all false
set_option maxRecDepth 10000

/-- The lexicographic order. -/
def lexLt : List Int → List Int → Bool
  | [], [] => false
  | [], _ :: _ => true
  | _ :: _, [] => false
  | a :: x, b :: y => if a = b then lexLt x y else decide (a < b)

theorem lexLt_drop {a b : List Int} {i : Nat} (h1 : i < a.length) (h2 : i < b.length) : lexLt (a.drop i) (b.drop i) = if nth a i = nth b i then lexLt (a.drop (i + 1)) (b.drop (i + 1)) else decide (nth a i < nth b i) := by
  rw [drop_nth h1, drop_nth h2]; simp [lexLt]

theorem before_loop {va vb : AV} {a b : List Int} (ha : IsInts va a) (hb : IsInts vb b) (hla : a.length < 4611686018427387904) : ∀ (n i : Nat) (m : Mem), a.length - i ≤ n → i ≤ a.length → i ≤ b.length →
    r01_Before.L0 va vb (.int .i64 i) m [.code r01_Before.r6, .code .ret] = some (.bool (lexLt (a.drop i) (b.drop i)), Mem.empty) := by
  intro n
  induction n with
  | zero =>
    intro i m hn hi hi2
    have e : i = a.length := by omega
    subst e
    rw [r01_Before.L0_eq]
    simp [ha.len, hb.len]
    rcases Nat.lt_or_ge a.length b.length with h | h
    · simp [h, drop_nth h, lexLt]
    · have e2 : a.length = b.length := by omega
      simp [e2, lexLt]
  | succ n ih =>
    intro i m hn hi hi2
    rw [r01_Before.L0_eq]
    simp [ha.len, hb.len]
    by_cases h1 : i < a.length
    · by_cases h2 : i < b.length
      · simp [ha.len, hb.len, h1, h2, ha.idx, hb.idx, ints_head]
        by_cases h3 : nth a i = nth b i
        · simp [h3]
          rw [wrap_id (by omega) (by omega)]
          have := ih (i + 1) ⟨m.h, m.nx + 9⟩ (by omega) (by omega) (by omega)
          simp at this
          rw [this, lexLt_drop h1 h2]
          simp [h3]
        · simp [h3, ha.idx, hb.idx, h1, h2, ints_head]
          rw [lexLt_drop h1 h2]
          simp [h3]
      · have e : i = b.length := by omega
        subst e
        simp [ha.len, hb.len, h1]
        have h4 : ¬ a.length < b.length := by omega
        simp [h4, drop_nth h1, lexLt]
    · have e : i = a.length := by omega
      subst e
      simp [ha.len, hb.len]
      rcases Nat.lt_or_ge a.length b.length with h | h
      · simp [h, drop_nth h, lexLt]
      · have e2 : a.length = b.length := by omega
        simp [e2, lexLt]

theorem before_spec {va vb : AV} {a b : List Int} (ha : IsInts va a) (hb : IsInts vb b) (hla : a.length < 4611686018427387904) (m : Mem) :
    denC prog ann 67 [va, vb] m = some (.bool (lexLt a b), m) := by
  rw [r01_Before.call_eq _ _ _ (by simp [ha.closed, hb.closed])]
  have := before_loop ha hb hla _ 0 Mem.empty (Nat.le_refl _) (by omega) (by omega)
  simp at this
  simp [this]

theorem lexLt_same : ∀ a b : List Int, (!lexLt a b && !lexLt b a) = decide (a = b)
  | [], [] => by simp [lexLt]
  | [], _ :: _ => by simp [lexLt]
  | _ :: _, [] => by simp [lexLt]
  | a :: x, b :: y => by
    have ih := lexLt_same x y
    by_cases h : a = b
    · subst h; simpa [lexLt] using ih
    · have h' : ¬ b = a := fun e => h e.symm
      simp only [lexLt, h, h', if_false]
      by_cases h1 : a < b
      · simp [h1, h]
      · have : b < a := by omega
        simp [this, h]

theorem same_spec {va vb : AV} {a b : List Int} (ha : IsInts va a) (hb : IsInts vb b) (hla : a.length < 4611686018427387904) (hlb : b.length < 4611686018427387904) (m : Mem) :
    denC prog ann 21 [va, vb] m = some (.bool (decide (a = b)), m) := by
  rw [r01_Same.call_eq _ _ _ (by simp [ha.closed, hb.closed])]
  simp [ha.closed, hb.closed, before_spec ha hb hla, before_spec hb ha hlb]
  have h := lexLt_same a b
  cases h1 : lexLt a b <;> cases h2 : lexLt b a <;> simp [h1, h2] at h <;> (try subst h) <;> simp [ha.closed, hb.closed, before_spec hb ha hlb, h1, h2, *]
end Go.Proofs.Ytdkmepjedjclkaa

/-
  WHAT THE REFERENCE COMPUTES OF A STORY: which cuts are consistent. Conditions: none.
-/
namespace Go.Proofs.Ytdkmepjedjclkaa
open Go.AM
open Go.Proofs.Try (prog)
set_option linter.all false
set_option maxRecDepth 10000

/-- A message: from a hand's deed to another hand's deed (deeds from 1 on). -/
structure Note where
  f : Int
  s : Int
  t : Int
  r : Int
deriving Inhabited

def noteC (x : Note) : List AV := [.int .i64 x.f, .int .i64 x.s, .int .i64 x.t, .int .i64 x.r]
theorem noteC_len (l : List Note) : ∀ x ∈ l, (noteC x).length = 4 := fun _ _ => rfl
@[simp] theorem noteC_one (x : Note) : oneL (noteC x) = true := rfl
@[simp] theorem noteC_closed (x : Note) : closedL (noteC x) = true := rfl
def nt (l : List Note) (i : Nat) : Note := l.getD i default
theorem nt_eq {l : List Note} {i : Nat} (h : i < l.length) : l[i]? = some (nt l i) := by
  rw [List.getElem?_eq_getElem h]; simp [nt, List.getD, List.getElem?_eq_getElem h]
theorem nt_mem {l : List Note} {i : Nat} (h : i < l.length) : nt l i ∈ l := List.mem_of_getElem? (nt_eq h)
theorem load_note {l : List Note} {i : Nat} (h : i < l.length) : loadF true 4 (.fptr (flatC noteC (l.drop i))) = some (.agg (noteC (nt l i))) := by
  rw [flatC_at (nt_eq h)]; simp [noteC]
theorem drop_nt {l : List Note} {i : Nat} (h : i < l.length) : l.drop i = nt l i :: l.drop (i + 1) := by
  obtain ⟨h1, h2⟩ := List.getElem?_eq_some_iff.1 (nt_eq h)
  rw [List.drop_eq_getElem_cons h1, h2]

/-- A story as an argument. -/
structure IsTale (v : AV) (D : List Int) (N : List Note) : Prop where
  ex : ∃ vD vN, v = .agg [vD, vN] ∧ IsInts vD D ∧ IsSl noteC vN N

theorem IsTale.closed {v : AV} {D : List Int} {N : List Note} (h : IsTale v D N) : v.closed = true := by
  obtain ⟨vD, vN, rfl, h1, h2⟩ := h.ex; simp [h1.closed, h2.closed]

/-- Does a cut hold what was received without what was sent? -/
def noteOk (c : List Int) (x : Note) : Bool := !(decide (x.r ≤ nth c x.t.toNat) && decide (nth c x.f.toNat < x.s))
def conR (N : List Note) (c : List Int) : Bool := N.all (noteOk c)

theorem consR_loop {vD vN vc : AV} {D : List Int} {N : List Note} {c : List Int} (hD : IsInts vD D) (hN : IsSl noteC vN N) (hc : IsInts vc c) (hl : N.length < 1000000)
    (hr : ∀ x ∈ N, 0 ≤ x.f ∧ x.f < c.length ∧ 0 ≤ x.t ∧ x.t < c.length) : ∀ (n i : Nat) (m : Mem), N.length - i ≤ n → i ≤ N.length →
    r09_Consistent.L0 vc (.fptr [vD, vN]) (.int .i64 i) m [.code r09_Consistent.r7, .code .ret] = some (.bool (conR (N.drop i) c), Mem.empty) := by
  intro n
  induction n with
  | zero =>
    intro i m h1 h2
    have e : i = N.length := by omega
    subst e
    rw [r09_Consistent.L0_eq]
    simp [hN.len, conR]
  | succ n ih =>
    intro i m h1 h2
    by_cases h3 : i < N.length
    · rw [r09_Consistent.L0_eq]
      obtain ⟨f0, f1, t0, t1⟩ := hr _ (nt_mem h3)
      have hw : IntKind.wrap .i64 ((i : Int) + 1) = (i : Int) + 1 := wrap_id (by omega) (by omega)
      simp [hN.len, h3, hN.idx (noteC_len N) h3, load_note h3]
      simp [noteC, hc.idxI f0 f1, hc.idxI t0 t1, ints_headI f0 f1, ints_headI t0 t1]
      have hi := fun m => ih (i + 1) m (by omega) (by omega)
      simp at hi
      have hd : conR (N.drop i) c = (noteOk c (nt N i) && conR (N.drop (i + 1)) c) := by rw [drop_nt h3]; rfl
      rw [hd]
      by_cases q1 : (nt N i).r ≤ nth c (nt N i).t.toNat
      · by_cases q2 : nth c (nt N i).f.toNat < (nt N i).s
        · simp [q1, q2, hc.idxI f0 f1, ints_headI f0 f1, noteOk]
        · simp [q1, q2, hc.idxI f0 f1, ints_headI f0 f1, noteOk, hw, hi]
      · simp [q1, noteOk, hw, hi]
    · have e : i = N.length := by omega
      subst e
      rw [r09_Consistent.L0_eq]
      simp [hN.len, conR]

theorem consR_spec {v vc : AV} {D : List Int} {N : List Note} {c : List Int} (hs : IsTale v D N) (hc : IsInts vc c) (hl : N.length < 1000000)
    (hr : ∀ x ∈ N, 0 ≤ x.f ∧ x.f < c.length ∧ 0 ≤ x.t ∧ x.t < c.length) (m : Mem) : denC prog ann 66 [v, vc] m = some (.bool (conR N c), m) := by
  have hcl := hs.closed
  obtain ⟨vD, vN, rfl, hD, hN⟩ := hs.ex
  rw [r09_Consistent.call_eq _ _ _ (by simp [hc.closed, hD.closed, hN.closed])]
  have := consR_loop hD hN hc hl hr _ 0 Mem.empty (Nat.le_refl _) (by omega)
  simp at this
  simp [hD.one, hN.one, hD.closed, hN.closed, this]

theorem in_spec (v lo hi : Int) (m : Mem) : denC prog ann 64 [.int .i64 v, .int .i64 lo, .int .i64 hi] m = some (.bool (decide (lo ≤ v) && decide (v ≤ hi)), m) := by
  rw [r09_in.call_eq _ _ _ _ (by simp)]
  simp
  by_cases h : lo ≤ v <;> simp [h]

/-- Are all messages there that the next deed of a hand receives? -/
def readyOk (done : List Int) (h : Nat) (x : Note) : Bool := !(decide (x.t = h) && (decide (x.r = nth done h + 1) && decide (nth done x.f.toNat < x.s)))
def readyL (N : List Note) (done : List Int) (h : Nat) : Bool := N.all (readyOk done h)

theorem ready_loop {vD vN vd : AV} {N : List Note} {done : List Int} (hN : IsSl noteC vN N) (hd : IsInts vd done) (hl : N.length < 1000000) {h : Nat} (hh : h < done.length) (hb : nth done h < 1000000) (hb0 : 0 ≤ nth done h)
    (hr : ∀ x ∈ N, 0 ≤ x.f ∧ x.f < done.length ∧ 0 ≤ x.t ∧ x.t < done.length) : ∀ (n i : Nat) (m : Mem), N.length - i ≤ n → i ≤ N.length →
    r09_ready.L0 vd (.int .i64 h) (.fptr [vD, vN]) (.int .i64 i) m [.code r09_ready.r7, .code .ret] = some (.bool (readyL (N.drop i) done h), Mem.empty) := by
  intro n
  induction n with
  | zero =>
    intro i m h1 h2
    have e : i = N.length := by omega
    subst e
    rw [r09_ready.L0_eq]
    simp [hN.len, readyL]
  | succ n ih =>
    intro i m h1 h2
    by_cases h3 : i < N.length
    · rw [r09_ready.L0_eq]
      obtain ⟨f0, f1, t0, t1⟩ := hr _ (nt_mem h3)
      have hw : IntKind.wrap .i64 ((i : Int) + 1) = (i : Int) + 1 := wrap_id (by omega) (by omega)
      have hw2 : IntKind.wrap .i64 (nth done h + 1) = nth done h + 1 := wrap_id (by omega) (by omega)
      have hi := fun m => ih (i + 1) m (by omega) (by omega)
      simp at hi
      have hd' : readyL (N.drop i) done h = (readyOk done h (nt N i) && readyL (N.drop (i + 1)) done h) := by rw [drop_nt h3]; rfl
      rw [hd']
      simp [hN.len, h3, hN.idx (noteC_len N) h3, load_note h3]
      by_cases q0 : (nt N i).t = h
      · by_cases q1 : (nt N i).r = nth done h + 1
        · by_cases q2 : nth done (nt N i).f.toNat < (nt N i).s
          · simp [noteC, q0, q1, q2, hd.idx hh, ints_head hh, hd.idxI f0 f1, ints_headI f0 f1, readyOk, hw2]
          · simp [noteC, q0, q1, q2, hd.idx hh, ints_head hh, hd.idxI f0 f1, ints_headI f0 f1, readyOk, hw2, hw, hi]
        · simp [noteC, q0, q1, hd.idx hh, ints_head hh, readyOk, hw2, hw, hi]
      · simp [noteC, q0, readyOk, hw, hi]
    · have e : i = N.length := by omega
      subst e
      rw [r09_ready.L0_eq]
      simp [hN.len, readyL]

theorem ready_spec {v vd : AV} {D : List Int} {N : List Note} {done : List Int} (hs : IsTale v D N) (hd : IsInts vd done) (hl : N.length < 1000000) {h : Nat} (hh : h < done.length) (hb : nth done h < 1000000) (hb0 : 0 ≤ nth done h)
    (hr : ∀ x ∈ N, 0 ≤ x.f ∧ x.f < done.length ∧ 0 ≤ x.t ∧ x.t < done.length) (m : Mem) : denC prog ann 65 [v, vd, .int .i64 h] m = some (.bool (readyL N done h), m) := by
  obtain ⟨vD, vN, rfl, hD, hN⟩ := hs.ex
  rw [r09_ready.call_eq _ _ _ _ (by simp [hd.closed, hD.closed, hN.closed])]
  have := ready_loop (vD := vD) hN hd hl hh hb hb0 hr _ 0 Mem.empty (Nat.le_refl _) (by omega)
  simp at this
  simp [hD.one, hN.one, hD.closed, hN.closed, this]
end Go.Proofs.Ytdkmepjedjclkaa

/-
  WHAT THE REFERENCE's Cuts COMPUTES: the consistent ones among all tuples, in lexicographic order. Conditions: none.
-/
namespace Go.Proofs.Ytdkmepjedjclkaa
open Go.AM
open Go.Proofs.Try (prog)
set_option linter.all false
set_option maxRecDepth 10000

/-! ### Tuples in lexicographic order -/
def tuplesL : List Int → List (List Int)
  | [] => [[]]
  | d :: D => (List.range (d.toNat + 1)).flatMap fun (i : Nat) => (tuplesL D).map (List.cons (i : Int))
/-- The tuples from one on. -/
def fromL : List Int → List Int → List (List Int)
  | d :: D, x :: c => (fromL D c).map (List.cons x) ++ (List.range' 1 (d - x).toNat).flatMap fun (i : Nat) => (tuplesL D).map (List.cons (x + i))
  | _, _ => [[]]
def nextL : List Int → List Int → Option (List Int)
  | d :: D, x :: c => match nextL D c with
    | some c' => some (x :: c')
    | none => if x < d then some ((x + 1) :: List.replicate c.length 0) else none
  | _, _ => none

/-- The odometer: places below j. -/
def odo (D : List Int) : List Int → Nat → Option (List Int)
  | _, 0 => none
  | c, j + 1 => if nth c j = nth D j then odo D (c.set j 0) j else some (c.set j (nth c j + 1))
def zeroTo : List Int → Nat → List Int
  | c, 0 => c
  | c, j + 1 => zeroTo (c.set j 0) j

/-- Slices of slices of numbers: each row is a value. -/
def rowC (c : List Int) : List AV := [.fsl false c.length (ints c)]
@[simp] theorem rowC_one (c : List Int) : oneL (rowC c) = true := rfl
@[simp] theorem rowC_closed (c : List Int) : closedL (rowC c) = true := rfl
/-- A tuple in the box of the deeds. -/
structure InBox (D c : List Int) : Prop where
  len : c.length = D.length
  lo : ∀ i, 0 ≤ nth c i
  hi : ∀ i, nth c i ≤ nth D i

/-- A story within the limits: hands, deeds, messages' places. -/
structure Lims (D : List Int) (N : List Note) : Prop where
  n1 : 1 ≤ D.length
  n4 : D.length ≤ 4
  lo : ∀ i, 0 ≤ nth D i
  hi : ∀ i, nth D i ≤ 6
  N24 : N.length ≤ 24
  notes : ∀ x ∈ N, 0 ≤ x.f ∧ x.f < D.length ∧ 0 ≤ x.t ∧ x.t < D.length

theorem Lims.all {D : List Int} {N : List Note} (L : Lims D N) : ∀ d ∈ D, 0 ≤ d ∧ d ≤ 6 := by
  intro d hd
  obtain ⟨i, hi, rfl⟩ := List.mem_iff_getElem.1 hd
  rw [nth_get hi]; exact ⟨L.lo i, L.hi i⟩

/-- All consistent cuts of the reference. -/
def cutsL (D : List Int) (N : List Note) : List (List Int) := (tuplesL D).filter (conR N)

end Go.Proofs.Ytdkmepjedjclkaa

/-
  WHAT THE REFERENCE's Valid COMPUTES: within the limits, and all deeds can be done one by one. Conditions: none.
-/
namespace Go.Proofs.Ytdkmepjedjclkaa
open Go.AM
open Go.Proofs.Try (prog)
set_option linter.all false
set_option maxRecDepth 10000

/-- A hand may do its next deed. -/
def Step (D : List Int) (N : List Note) (done : List Int) (h : Nat) : Prop := h < D.length ∧ nth done h < nth D h ∧ readyL N done h = true
/-- What can be done, deed by deed. -/
inductive Reach (D : List Int) (N : List Note) : List Int → Prop where
  | zero : Reach D N (List.replicate D.length 0)
  | step {done : List Int} {h : Nat} : Reach D N done → Step D N done h → Reach D N (done.set h (nth done h + 1))

theorem Reach.box {D : List Int} {N : List Note} (lo : ∀ i, 0 ≤ nth D i) {done : List Int} (r : Reach D N done) : InBox D done := by
  induction r with
  | zero =>
    have hz : ∀ i, nth (List.replicate D.length 0) i = 0 := fun i => by
      simp only [nth, List.getD, List.getElem?_replicate]; split <;> rfl
    exact ⟨by simp, fun i => by rw [hz]; omega, fun i => by rw [hz]; exact lo i⟩
  | @step done h r s ih =>
    obtain ⟨s1, s2, _⟩ := s
    have hl := ih.len
    refine ⟨by simp [hl], fun i => ?_, fun i => ?_⟩
    · by_cases e : h = i
      · subst e
        have : nth (done.set h (nth done h + 1)) h = nth done h + 1 := by simp [nth, List.getD, List.getElem?_set, show h < done.length by omega]
        have := ih.lo h; omega
      · have : nth (done.set h (nth done h + 1)) i = nth done i := by simp [nth, List.getD, List.getElem?_set, e]
        have := ih.lo i; omega
    · by_cases e : h = i
      · subst e
        have : nth (done.set h (nth done h + 1)) h = nth done h + 1 := by simp [nth, List.getD, List.getElem?_set, show h < done.length by omega]
        omega
      · have : nth (done.set h (nth done h + 1)) i = nth done i := by simp [nth, List.getD, List.getElem?_set, e]
        have := ih.hi i; omega

def Stuck (D : List Int) (N : List Note) (done : List Int) : Prop := ∀ h, ¬ Step D N done h

/-- Where nothing more can be done, all is done that can be. -/
theorem stuck_most {D : List Int} {N : List Note} {done x : List Int} (hd : done.length = D.length) (st : Stuck D N done) (r : Reach D N x) (lo : ∀ i, 0 ≤ nth D i) (hn : ∀ i, 0 ≤ nth done i) : ∀ i, nth x i ≤ nth done i := by
  induction r with
  | zero => intro i; have : nth (List.replicate D.length 0) i = 0 := by { simp only [nth, List.getD, List.getElem?_replicate]; split <;> rfl }; have := hn i; omega
  | @step x h r s ih =>
    obtain ⟨s1, s2, s3⟩ := s
    have hl := (Reach.box lo r).len
    intro i
    by_cases e : h = i
    · subst e
      have e1 : nth (x.set h (nth x h + 1)) h = nth x h + 1 := by simp [nth, List.getD, List.getElem?_set, show h < x.length by omega]
      rw [e1]
      have h1 := ih h
      rcases Int.lt_or_eq_of_le h1 with h2 | h2
      · omega
      · exfalso
        refine st h ⟨s1, by omega, ?_⟩
        simp only [readyL, List.all_eq_true] at s3 ⊢
        intro y hy
        have := s3 y hy
        simp only [readyOk] at this ⊢
        rw [← h2]
        have h3 := ih y.f.toNat
        by_cases q1 : y.t = h <;> by_cases q2 : y.r = nth x h + 1 <;> simp [q1, q2] at this ⊢
        omega
    · have : nth (x.set h (nth x h + 1)) i = nth x i := by simp [nth, List.getD, List.getElem?_set, e]
      rw [this]; exact ih i

theorem ext_nth {a b : List Int} (hl : a.length = b.length) (h : ∀ i, nth a i = nth b i) : a = b := by
  refine List.ext_getElem hl fun i h1 h2 => ?_
  rw [nth_get h1, nth_get h2]; exact h i

/-- A message of the story. -/
structure NoteIn (D : List Int) (x : Note) : Prop where
  f0 : 0 ≤ x.f
  f1 : x.f < D.length
  t0 : 0 ≤ x.t
  t1 : x.t < D.length
  ne : x.f ≠ x.t
  s0 : 1 ≤ x.s
  s1 : x.s ≤ nth D x.f.toNat
  r0 : 1 ≤ x.r
  r1 : x.r ≤ nth D x.t.toNat

/-- A story is valid. -/
structure ValidS (D : List Int) (N : List Note) : Prop where
  n1 : 1 ≤ D.length
  n4 : D.length ≤ 4
  lo : ∀ i, 0 ≤ nth D i
  hi : ∀ i, nth D i ≤ 6
  N24 : N.length ≤ 24
  notes : ∀ x ∈ N, NoteIn D x
  all : Reach D N D

theorem ValidS.lims {D : List Int} {N : List Note} (v : ValidS D N) : Lims D N := ⟨v.n1, v.n4, v.lo, v.hi, v.N24, fun x hx => ⟨(v.notes x hx).f0, (v.notes x hx).f1, (v.notes x hx).t0, (v.notes x hx).t1⟩⟩

/-! ### The walk: deeds are done, sweep after sweep -/
theorem sum_set : ∀ (l : List Int) (i : Nat) (a : Int), i < l.length → (l.set i a).sum = l.sum - nth l i + a
  | x :: l, 0, a, _ => by simp [nth_cons0]; omega
  | x :: l, i + 1, a, h => by
    have := sum_set l i a (by simpa using h)
    simp only [List.set_cons_succ, List.sum_cons, nth_cons1, this]; omega
theorem sum_le : ∀ (a b : List Int), a.length = b.length → (∀ i, nth a i ≤ nth b i) → a.sum ≤ b.sum
  | [], [], _, _ => by simp
  | x :: a, y :: b, hl, h => by
    have h0 := h 0
    have := sum_le a b (by simpa using hl) (fun i => by simpa [nth_cons1] using h (i + 1))
    simp only [nth_cons0] at h0
    simp only [List.sum_cons]; omega

theorem sweep_loop {vD vN : AV} {D : List Int} {N : List Note} (hD : IsInts vD D) (hN : IsSl noteC vN N) (L : Lims D N) {id : Nat} {done0 : List Int} : ∀ (k h : Nat) (done : List Int) (mv : Bool) (m : Mem), h + k = D.length → Reach D N done →
    m.h id = some (.cells (ints done)) → ((mv = false ∧ done = done0 ∧ ∀ g, g < h → ¬ Step D N done0 g) ∨ (mv = true ∧ done0.sum < done.sum)) →
    ∃ done' mv' m', r09_Valid.L6 (.fptr [vD, vN]) (.sl id 1 0 D.length D.length) (.bool mv) (.int .i64 h) m [.inBlock 5, .inLoop r09_Valid.l4, .inBlock 4, .code r09_Valid.r24, .code .ret] =
        r09_Valid.L4 (.fptr [vD, vN]) (.sl id 1 0 D.length D.length) (.bool mv') m' [.code r09_Valid.r24, .code .ret] ∧ Reach D N done' ∧ m'.h id = some (.cells (ints done')) ∧
        ((mv' = false ∧ done' = done0 ∧ Stuck D N done0) ∨ (mv' = true ∧ done0.sum < done'.sum)) := by
  intro k
  induction k with
  | zero =>
    intro h done mv m hk hr hm hp
    have e : h = D.length := by omega
    subst e
    refine ⟨done, mv, m, ?_, hr, hm, hp.imp (fun ⟨a, b, c⟩ => ⟨a, b, fun g hg => c g hg.1 hg⟩) (fun h => h)⟩
    rw [r09_Valid.L6_eq]
    simp
  | succ k ih =>
    intro h done mv m hk hr hm hp
    have hh : h < D.length := by omega
    have hb := hr.box L.lo
    have hl := hb.len
    have b1 := hb.lo h; have b2 := hb.hi h; have b3 := L.hi h
    have hn4 := L.n4
    have htale : IsTale (.agg [vD, vN]) D N := ⟨vD, vN, rfl, hD, hN⟩
    have hrd := ready_spec htale (vd := .fsl false D.length (ints done)) (done := done) (.inr ⟨false, by rw [hl]⟩) (by have := L.N24; omega) (h := h) (by omega) (by omega) b1 (fun x hx => by rw [hl]; exact L.notes x hx) Mem.empty
    have hw : IntKind.wrap .i64 ((h : Int) + 1) = (h : Int) + 1 := wrap_id (by omega) (by omega)
    have hw2 : IntKind.wrap .i64 (nth done h + 1) = nth done h + 1 := wrap_id (by omega) (by omega)
    have htk : (ints done).take D.length = ints done := List.take_of_length_le (by simp; omega)
    rw [r09_Valid.L6_eq]
    by_cases q1 : nth done h < nth D h
    · by_cases q2 : readyL N done h = true
      · -- done
        have st : Step D N done h := ⟨hh, q1, q2⟩
        have := ih (h + 1) (done.set h (nth done h + 1)) true ⟨upd m.h id (some (.cells (ints (done.set h (nth done h + 1))))), m.nx + 16⟩ (by omega) (hr.step st) (by simp) (.inr ⟨rfl, by
          rw [sum_set _ _ _ (by omega)]
          rcases hp with ⟨_, e, _⟩ | ⟨_, e⟩
          · subst e; omega
          · omega⟩)
        obtain ⟨done', mv', m', e, r⟩ := this
        refine ⟨done', mv', m', ?_, r⟩
        rw [← e]
        simp [hh, hm, hl, hD.idx hh, ints_head hh, q1, hD.closed, hN.closed, hD.deep m.h 4, hN.deep m.h 4, htk, hrd, AV.flat, AV.flat1, q2, hw, hw2]
      · have q2' : readyL N done h = false := by simpa using q2
        have := ih (h + 1) done mv ⟨m.h, m.nx + 16⟩ (by omega) hr (by simpa using hm) (by
          rcases hp with ⟨a, b, c⟩ | hp
          · refine .inl ⟨a, b, fun g hg => ?_⟩
            by_cases e : g = h
            · subst e; subst b; intro st; rw [st.2.2] at q2'; cases q2'
            · exact c g (by omega)
          · exact .inr hp)
        obtain ⟨done', mv', m', e, r⟩ := this
        refine ⟨done', mv', m', ?_, r⟩
        rw [← e]
        simp [hh, hm, hl, hD.idx hh, ints_head hh, q1, hD.closed, hN.closed, hD.deep m.h 4, hN.deep m.h 4, htk, hrd, AV.flat, AV.flat1, q2', hw, hw2]
    · have := ih (h + 1) done mv ⟨m.h, m.nx + 16⟩ (by omega) hr (by simpa using hm) (by
          rcases hp with ⟨a, b, c⟩ | hp
          · refine .inl ⟨a, b, fun g hg => ?_⟩
            by_cases e : g = h
            · subst e; subst b; intro st; exact q1 st.2.1
            · exact c g (by omega)
          · exact .inr hp)
      obtain ⟨done', mv', m', e, r⟩ := this
      refine ⟨done', mv', m', ?_, r⟩
      rw [← e]
      simp [hh, hm, hl, hD.idx hh, ints_head hh, q1, hw]

theorem sim_loop {vD vN : AV} {D : List Int} {N : List Note} (hD : IsInts vD D) (hN : IsSl noteC vN N) (L : Lims D N) {id : Nat} : ∀ (n : Nat) (done : List Int) (mv : Bool) (m : Mem), (D.sum - done.sum).toNat ≤ n → Reach D N done →
    m.h id = some (.cells (ints done)) → (mv = false → Stuck D N done) →
    ∃ fin, Reach D N fin ∧ Stuck D N fin ∧ r09_Valid.L4 (.fptr [vD, vN]) (.sl id 1 0 D.length D.length) (.bool mv) m [.code r09_Valid.r24, .code .ret] = some (.bool (decide (fin = D)), Mem.empty) := by
  -- the last test
  have last : ∀ (done : List Int) (m : Mem), Reach D N done → m.h id = some (.cells (ints done)) → r09_Valid.L4 (.fptr [vD, vN]) (.sl id 1 0 D.length D.length) (.bool false) m [.code r09_Valid.r24, .code .ret] = some (.bool (decide (done = D)), Mem.empty) := by
    intro done m hr hm
    have hl := (hr.box L.lo).len
    have hn4 := L.n4
    have htk : (ints done).take D.length = ints done := List.take_of_length_le (by simp; omega)
    have hs := same_spec (va := .fsl false D.length (ints done)) (a := done) (.inr ⟨false, by rw [hl]⟩) hD (by omega) (by omega) Mem.empty
    rw [r09_Valid.L4_eq]
    simp [hm, hl, htk, hD.deep m.h 5, hs, AV.flat, AV.flat1]
  -- one sweep
  have sweep : ∀ (done : List Int) (m : Mem), Reach D N done → m.h id = some (.cells (ints done)) → ∃ done' mv' m', r09_Valid.L4 (.fptr [vD, vN]) (.sl id 1 0 D.length D.length) (.bool true) m [.code r09_Valid.r24, .code .ret] =
        r09_Valid.L4 (.fptr [vD, vN]) (.sl id 1 0 D.length D.length) (.bool mv') m' [.code r09_Valid.r24, .code .ret] ∧ Reach D N done' ∧ m'.h id = some (.cells (ints done')) ∧
        ((mv' = false ∧ done' = done ∧ Stuck D N done) ∨ (mv' = true ∧ done.sum < done'.sum)) := by
    intro done m hr hm
    obtain ⟨done', mv', m', e, r⟩ := sweep_loop hD hN L (id := id) (done0 := done) D.length 0 done false m (by omega) hr hm (.inl ⟨rfl, rfl, fun g hg => by omega⟩)
    refine ⟨done', mv', m', ?_, r⟩
    rw [← e, r09_Valid.L4_eq]
    simp
  intro n
  induction n with
  | zero =>
    intro done mv m hn hr hm hst
    cases mv with
    | false => exact ⟨done, hr, hst rfl, last done m hr hm⟩
    | true =>
      obtain ⟨done', mv', m', e, r1, r2, r3⟩ := sweep done m hr hm
      rcases r3 with ⟨rfl, rfl, h3⟩ | ⟨rfl, h3⟩
      · exact ⟨_, r1, h3, by rw [e]; exact last _ m' r1 r2⟩
      · exfalso
        have hb := r1.box L.lo
        have := sum_le done' D hb.len hb.hi
        omega
  | succ n ih =>
    intro done mv m hn hr hm hst
    cases mv with
    | false => exact ⟨done, hr, hst rfl, last done m hr hm⟩
    | true =>
      obtain ⟨done', mv', m', e, r1, r2, r3⟩ := sweep done m hr hm
      rcases r3 with ⟨rfl, rfl, h3⟩ | ⟨rfl, h3⟩
      · exact ⟨_, r1, h3, by rw [e]; exact last _ m' r1 r2⟩
      · obtain ⟨fin, f1, f2, f3⟩ := ih done' true m' (by omega) r1 r2 (fun h => by cases h)
        exact ⟨fin, f1, f2, by rw [e]; exact f3⟩
end Go.Proofs.Ytdkmepjedjclkaa

/-
  WHAT THE REFERENCE's Valid COMPUTES: whether a story is valid. Conditions: none.
-/
namespace Go.Proofs.Ytdkmepjedjclkaa
open Go.AM
open Go.Proofs.Try (prog)
set_option linter.all false
set_option maxRecDepth 10000

theorem fin_iff {D : List Int} {N : List Note} (lo : ∀ i, 0 ≤ nth D i) {fin : List Int} (r : Reach D N fin) (st : Stuck D N fin) : fin = D ↔ Reach D N D := by
  constructor
  · intro e; rw [e] at r; exact r
  · intro rD
    have hb := r.box lo
    have h1 := stuck_most hb.len st rD lo hb.lo
    exact ext_nth hb.len fun i => Int.le_antisymm (hb.hi i) (h1 i)

section
variable {vD vN : AV} {D : List Int} {N : List Note}

theorem valid_deeds (hD : IsInts vD D) (hl : D.length < 1000000) {R : Option Res} (T : D.all (fun d => decide (0 ≤ d) && decide (d ≤ 6)) = true → ∀ t m, AM.get t 1 = .fptr [vD, vN] → den prog ann 19 [.code r09_Valid.r6, .code r09_Valid.i2, .code r09_Valid.r8, .code r09_Valid.k2, .code r09_Valid.r14, .code r09_Valid.r15, .code r09_Valid.k4, .code r09_Valid.r24, .code .ret] ⟨t, 132, m⟩ = R) :
    ∀ (n i : Nat) (m : Mem), D.length - i ≤ n → i ≤ D.length → (D.take i).all (fun d => decide (0 ≤ d) && decide (d ≤ 6)) = true →
    r09_Valid.L0 (.fptr [vD, vN]) (.int .i64 i) m [.code r09_Valid.r6, .code r09_Valid.i2, .code r09_Valid.r8, .code r09_Valid.k2, .code r09_Valid.r14, .code r09_Valid.r15, .code r09_Valid.k4, .code r09_Valid.r24, .code .ret] =
      if (D.drop i).all (fun d => decide (0 ≤ d) && decide (d ≤ 6)) then R else some (.bool false, Mem.empty) := by
  intro n
  induction n with
  | zero =>
    intro i m h1 h2 hp
    have e : i = D.length := by omega
    subst e
    rw [List.take_length] at hp
    rw [r09_Valid.L0_eq]
    simp [hD.len, -r09_Valid.r6_eq, T hp]
  | succ n ih =>
    intro i m h1 h2 hp
    by_cases h3 : i < D.length
    · have hw : IntKind.wrap .i64 ((i : Int) + 1) = (i : Int) + 1 := wrap_id (by omega) (by omega)
      rw [r09_Valid.L0_eq, drop_nth h3]
      by_cases q : 0 ≤ nth D i ∧ nth D i ≤ 6
      · have hi := fun m => ih (i + 1) m (by omega) (by omega) (by
          rw [List.take_succ, nth_eq h3, List.all_append, hp]; simp [q.1, q.2])
        simp only [Int.natCast_add, Int.cast_ofNat_Int] at hi
        simp [hD.len, h3, hD.idx h3, ints_head h3, in_spec, q.1, q.2, hw, hi]
      · have q' : (decide (0 ≤ nth D i) && decide (nth D i ≤ 6)) = false := by
          by_cases q1 : 0 ≤ nth D i
          · have : ¬ nth D i ≤ 6 := fun q2 => q ⟨q1, q2⟩
            simp [this]
          · simp [q1]
        simp [hD.len, h3, hD.idx h3, ints_head h3, in_spec, q']
    · have e : i = D.length := by omega
      subst e
      rw [List.take_length] at hp
      rw [r09_Valid.L0_eq]
      simp [hD.len, -r09_Valid.r6_eq, T hp]

/-- Is a message one of the story? -/
def noteIn (D : List Int) (x : Note) : Bool :=
  (decide (0 ≤ x.f) && decide (x.f ≤ (D.length : Int) - 1)) && ((decide (0 ≤ x.t) && decide (x.t ≤ (D.length : Int) - 1)) && (!decide (x.f = x.t) && ((decide (1 ≤ x.s) && decide (x.s ≤ nth D x.f.toNat)) && (decide (1 ≤ x.r) && decide (x.r ≤ nth D x.t.toNat)))))
theorem noteIn_iff {x : Note} : noteIn D x = true ↔ NoteIn D x := by
  simp only [noteIn, Bool.and_eq_true, decide_eq_true_eq, Bool.not_eq_true', decide_eq_false_iff_not]
  constructor
  · rintro ⟨⟨a, b⟩, ⟨c, d⟩, e, ⟨f, g⟩, h, i⟩
    exact ⟨a, by omega, c, by omega, e, f, g, h, i⟩
  · rintro ⟨a, b, c, d, e, f, g, h, i⟩
    exact ⟨⟨a, by omega⟩, ⟨c, by omega⟩, e, ⟨f, g⟩, h, i⟩

theorem valid_notes (hD : IsInts vD D) (hN : IsSl noteC vN N) (hl : D.length < 1000000) (hn : N.length < 1000000) {R : Option Res} (T : N.all (noteIn D) = true → ∀ t m, AM.get t 1 = .fptr [vD, vN] → den prog ann 19 [.code r09_Valid.r14, .code r09_Valid.r15, .code r09_Valid.k4, .code r09_Valid.r24, .code .ret] ⟨t, 132, m⟩ = R) :
    ∀ (n i : Nat) (m : Mem), N.length - i ≤ n → i ≤ N.length → (N.take i).all (noteIn D) = true →
    r09_Valid.L2 (.fptr [vD, vN]) (.int .i64 i) m [.code r09_Valid.r14, .code r09_Valid.r15, .code r09_Valid.k4, .code r09_Valid.r24, .code .ret] =
      if (N.drop i).all (noteIn D) then R else some (.bool false, Mem.empty) := by
  intro n
  induction n with
  | zero =>
    intro i m h1 h2 hp
    have e : i = N.length := by omega
    subst e
    rw [List.take_length] at hp
    rw [r09_Valid.L2_eq]
    simp [hN.len, -r09_Valid.r14_eq, T hp]
  | succ n ih =>
    intro i m h1 h2 hp
    by_cases h3 : i < N.length
    · have hw : IntKind.wrap .i64 ((i : Int) + 1) = (i : Int) + 1 := wrap_id (by omega) (by omega)
      have hw2 : IntKind.wrap .i64 ((D.length : Int) - 1) = (D.length : Int) - 1 := wrap_id (by omega) (by omega)
      rw [r09_Valid.L2_eq, drop_nt h3]
      by_cases q1 : (decide (0 ≤ (nt N i).f) && decide ((nt N i).f ≤ (D.length : Int) - 1)) = true
      · have ⟨f0, f1⟩ : 0 ≤ (nt N i).f ∧ (nt N i).f < D.length := by simp at q1; omega
        by_cases q2 : (decide (0 ≤ (nt N i).t) && decide ((nt N i).t ≤ (D.length : Int) - 1)) = true
        · have ⟨t0, t1⟩ : 0 ≤ (nt N i).t ∧ (nt N i).t < D.length := by simp at q2; omega
          by_cases q3 : (nt N i).f = (nt N i).t
          · simp [noteIn, hN.len, h3, hN.idx (noteC_len N) h3, load_note h3, noteC, hD.len, in_spec, hw2, q1, q2, q3, hw]
          · by_cases q4 : (decide (1 ≤ (nt N i).s) && decide ((nt N i).s ≤ nth D (nt N i).f.toNat)) = true
            · by_cases q5 : (decide (1 ≤ (nt N i).r) && decide ((nt N i).r ≤ nth D (nt N i).t.toNat)) = true
              · have hni : noteIn D (nt N i) = true := by simp only [noteIn, q1, q2, q3, q4, q5]; rfl
                have hi := fun m => ih (i + 1) m (by omega) (by omega) (by
                  rw [List.take_succ, nt_eq h3, List.all_append, hp]; simp [hni])
                simp only [Int.natCast_add, Int.cast_ofNat_Int] at hi
                simp [noteIn, hN.len, h3, hN.idx (noteC_len N) h3, load_note h3, noteC, hD.len, in_spec, hw2, q1, q2, q3, q4, q5, hw, hi, hD.idxI f0 f1, ints_headI f0 f1, hD.idxI t0 t1, ints_headI t0 t1]
              · have q5' : (decide (1 ≤ (nt N i).r) && decide ((nt N i).r ≤ nth D (nt N i).t.toNat)) = false := by simpa using q5
                simp [noteIn, hN.len, h3, hN.idx (noteC_len N) h3, load_note h3, noteC, hD.len, in_spec, hw2, q1, q2, q3, q4, q5', hw, hD.idxI f0 f1, ints_headI f0 f1, hD.idxI t0 t1, ints_headI t0 t1]
            · have q4' : (decide (1 ≤ (nt N i).s) && decide ((nt N i).s ≤ nth D (nt N i).f.toNat)) = false := by simpa using q4
              simp [noteIn, hN.len, h3, hN.idx (noteC_len N) h3, load_note h3, noteC, hD.len, in_spec, hw2, q1, q2, q3, q4', hw, hD.idxI f0 f1, ints_headI f0 f1]
        · have q2' : (decide (0 ≤ (nt N i).t) && decide ((nt N i).t ≤ (D.length : Int) - 1)) = false := by simpa using q2
          simp [noteIn, hN.len, h3, hN.idx (noteC_len N) h3, load_note h3, noteC, hD.len, in_spec, hw2, q1, q2', hw]
      · have q1' : (decide (0 ≤ (nt N i).f) && decide ((nt N i).f ≤ (D.length : Int) - 1)) = false := by simpa using q1
        simp [noteIn, hN.len, h3, hN.idx (noteC_len N) h3, load_note h3, noteC, hD.len, in_spec, hw2, q1', hw]
    · have e : i = N.length := by omega
      subst e
      rw [List.take_length] at hp
      rw [r09_Valid.L2_eq]
      simp [hN.len, -r09_Valid.r14_eq, T hp]
end

theorem all_nth {p : Int → Bool} {D : List Int} : D.all p = true ↔ ∀ i, i < D.length → p (nth D i) = true := by
  rw [List.all_eq_true]
  constructor
  · intro h i hi; rw [← nth_get hi]; exact h _ (List.getElem_mem hi)
  · intro h d hd
    obtain ⟨i, hi, rfl⟩ := List.mem_iff_getElem.1 hd
    rw [nth_get hi]; exact h i hi

theorem valid_spec {v : AV} {D : List Int} {N : List Note} (hs : IsTale v D N) (hl : D.length < 1000000) (hn : N.length < 1000000) : ∃ b : Bool, (b = true ↔ ValidS D N) ∧ ∀ m, denC prog ann 19 [v] m = some (.bool b, m) := by
  obtain ⟨vD, vN, rfl, hD, hN⟩ := hs.ex
  -- the last part: all deeds are done
  have T14 : ∀ b : Bool, Lims D N → (b = true ↔ Reach D N D) → ∀ t m, AM.get t 1 = .fptr [vD, vN] → den prog ann 19 [.code r09_Valid.r14, .code r09_Valid.r15, .code r09_Valid.k4, .code r09_Valid.r24, .code .ret] ⟨t, 132, m⟩ = some (.bool b, Mem.empty) := by
    intro b L hb t m ht
    have hn4 := L.n4
    have hone : oneL (List.replicate D.length (AV.int .i64 0)) = true := by
      have := ints_oneL (List.replicate D.length 0)
      simpa [ints] using this
    obtain ⟨fin, f1, f2, f3⟩ := sim_loop hD hN L (id := m.nx) _ (List.replicate D.length 0) true ⟨upd m.h m.nx (some (.cells (List.replicate D.length (.int .i64 0)))), m.nx + 1⟩ (Nat.le_refl _) Reach.zero (by simp [ints]) (fun h => by cases h)
    have e : decide (fin = D) = b := by
      have := fin_iff L.lo f1 f2
      cases b with
      | true => exact decide_eq_true (this.2 (hb.1 rfl))
      | false => exact decide_eq_false fun h => by have := hb.2 (this.1 h); cases this
    rw [e] at f3
    simp [ht, hD.len, hone, show D.length ≤ 4611686018427387904 by omega, show D.length * 8 ≤ 70368744177664 by omega, f3]
  -- from the lengths on
  have T6 : ∀ b : Bool, (∀ i, 0 ≤ nth D i ∧ nth D i ≤ 6) → (b = true ↔ ValidS D N) → ∀ t m, AM.get t 1 = .fptr [vD, vN] → den prog ann 19 [.code r09_Valid.r6, .code r09_Valid.i2, .code r09_Valid.r8, .code r09_Valid.k2, .code r09_Valid.r14, .code r09_Valid.r15, .code r09_Valid.k4, .code r09_Valid.r24, .code .ret] ⟨t, 132, m⟩ = some (.bool b, Mem.empty) := by
    intro b hD6 hb t m ht
    have no : ¬ ValidS D N → b = false := fun h => by cases b with | false => rfl | true => exact absurd (hb.1 rfl) h
    by_cases q1 : (decide (1 ≤ (D.length : Int)) && decide ((D.length : Int) ≤ 4)) = true
    · have ⟨n1, n4⟩ : 1 ≤ D.length ∧ D.length ≤ 4 := by simp only [Bool.and_eq_true, decide_eq_true_eq] at q1; omega
      by_cases q2 : (24 : Int) < N.length
      · have := no (fun v => by have := v.N24; omega)
        subst this
        simp [ht, hD.len, hN.len, in_spec, q1, q2]
      · by_cases q3 : N.all (noteIn D) = true
        · have hno : ∀ x ∈ N, NoteIn D x := fun x hx => noteIn_iff.1 (List.all_eq_true.1 q3 x hx)
          have L : Lims D N := ⟨n1, n4, fun i => (hD6 i).1, fun i => (hD6 i).2, by omega, fun x hx => ⟨(hno x hx).f0, (hno x hx).f1, (hno x hx).t0, (hno x hx).t1⟩⟩
          have hb' : b = true ↔ Reach D N D := hb.trans ⟨fun v => v.all, fun r => ⟨n1, n4, L.lo, L.hi, L.N24, hno, r⟩⟩
          have h2 := fun m => valid_notes hD hN hl hn (fun _ => T14 b L hb') _ 0 m (Nat.le_refl _) (by omega) rfl
          simp only [List.drop_zero, q3, if_true] at h2
          simp at h2
          simp [ht, hD.len, hN.len, in_spec, q1, q2, h2]
        · have := no (fun v => q3 (List.all_eq_true.2 fun x hx => noteIn_iff.2 (v.notes x hx)))
          subst this
          have h2 := fun m => valid_notes (R := none) hD hN hl hn (fun h => absurd h q3) _ 0 m (Nat.le_refl _) (by omega) rfl
          simp only [List.drop_zero, q3] at h2
          simp at h2
          simp [ht, hD.len, hN.len, in_spec, q1, q2, h2]
    · have := no (fun v => q1 (by have := v.n1; have := v.n4; simp; omega))
      subst this
      have q1' : (decide (1 ≤ (D.length : Int)) && decide ((D.length : Int) ≤ 4)) = false := by simpa using q1
      simp [ht, hD.len, hN.len, in_spec, q1']
  have hcl : closedL [AV.agg [vD, vN]] = true := by simp [hD.closed, hN.closed]
  obtain ⟨b, hb⟩ : ∃ b : Bool, b = true ↔ ValidS D N := by
    rcases Classical.em (ValidS D N) with h | h
    · exact ⟨true, by simp [h]⟩
    · exact ⟨false, by simp [h]⟩
  refine ⟨b, hb, fun m => ?_⟩
  rw [r09_Valid.call_eq _ _ hcl]
  by_cases q : D.all (fun d => decide (0 ≤ d) && decide (d ≤ 6)) = true
  · have hD6 : ∀ i, 0 ≤ nth D i ∧ nth D i ≤ 6 := by
      intro i
      rcases Nat.lt_or_ge i D.length with h | h
      · have := all_nth.1 q i h; simpa using this
      · rw [nth_out h]; omega
    have h0 := valid_deeds (vN := vN) hD hl (fun _ => T6 b hD6 hb) _ 0 Mem.empty (Nat.le_refl _) (by omega) rfl
    simp only [List.drop_zero, q, if_true] at h0
    simp at h0
    simp [hD.one, hN.one, hD.closed, hN.closed, h0]
  · have : b = false := by
      cases b with
      | false => rfl
      | true =>
        have v := hb.1 rfl
        exact absurd (all_nth.2 fun i hi => by simp [v.lo i, v.hi i]) q
    subst this
    have h0 := valid_deeds (vN := vN) (R := none) hD hl (fun h => absurd h q) _ 0 Mem.empty (Nat.le_refl _) (by omega) rfl
    simp only [List.drop_zero, q] at h0
    simp at h0
    simp [hD.one, hN.one, hD.closed, hN.closed, h0]
end Go.Proofs.Ytdkmepjedjclkaa

/-
  WHAT THE LAWS' ARGUMENTS ARE: numbers, lists of numbers, stories. Conditions: none.
-/
namespace Go.Proofs.Ytdkmepjedjclkaa
open Go.AM
open Go.Proofs.Try (prog)
set_option linter.all false
set_option maxRecDepth 10000

def I64 (n : Int) : Prop := -9223372036854775808 ≤ n ∧ n ≤ 9223372036854775807
end Go.Proofs.Ytdkmepjedjclkaa
