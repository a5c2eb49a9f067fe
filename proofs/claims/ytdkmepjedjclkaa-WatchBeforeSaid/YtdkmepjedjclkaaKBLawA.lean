/-
  BODIES OF FUNCTIONS OF THE PROGRAM AS SMALL OPERATIONS (written by gen.py; checked by the kernel against the program). Conditions: none.
-/
import Derived.Test.YtdkmepjedjclkaaKAmH
set_option linter.all false
namespace Go.Proofs.Ytdkmepjedjclkaa
open Go.AM
open Go.Proofs.Try (prog)
set_option maxRecDepth 100000
set_option linter.all false

namespace l09_cut
/-- pommel/pommellaw09.cut -/
noncomputable def b : Code := (Try.f17.body).getD .skip
theorem hf : prog.funcs[17]? = some Try.f17 := by kernel_rfl
noncomputable def r0 : Code := findReg b 0
noncomputable def r1 : Code := findReg b 1
theorem b_eq (K : List Item) (s : St) : den prog ann 17 (.code b :: K) s = den prog ann 17 (.code r0 :: .code r1 :: .code .ret :: K) s := den_flat hf (l := [r0, r1, .ret]) (by kernel_rfl) K s
theorem r0_eq (K : List Item) (s : St) : den prog ann 17 (.code r0 :: K) s = mreg prog ann 17 none [] none [] [
    ⟨some 1, none, .v fun s => frozenPtr (s.get 0)⟩,
    ⟨some 2, none, .w false none fun s => newPtr s.m [.nils, .nils]⟩] K s := (den_reg hf _ K s).trans (by kernel_rfl)
theorem r1_draw : drawOk (fun g => (ann g).pure) (modeOf (ann 17) (idOf r1)) (frzOf (ann 17) (idOf r1)) (opsOf r1) = true := drawOk_of (an := [0, 0, 2, 0, 8, 24, 56, 126, 255, 0, 0, 1024, 0, 4096, 12288, 28672, 64512, 131071, 262143, 524287]) (by kernel_rfl) (by kernel_rfl)
theorem r1_eq (K : List Item) (s : St) : den prog ann 17 (.code r1 :: K) s = mreg prog ann 17 none [] (some 20) [] [
    ⟨some 3, none, .v fun s => bslF 0 (bslA 1 0 [.int .i64 0] [])⟩,
    ⟨some 4, none, .v fun s => fieldA 0 (s.get 1)⟩,
    ⟨some 5, none, .v fun s => loadF false 1 (s.get 4)⟩,
    ⟨some 6, none, .v fun s => fieldA 0 (s.get 1)⟩,
    ⟨some 7, none, .v fun s => loadF false 1 (s.get 6)⟩,
    ⟨some 8, none, .v fun s => lenSl (s.get 7)⟩,
    ⟨some 9, none, .v fun s => foldA min2A (s.get 8) [(.int .i64 5)]⟩,
    ⟨some 10, none, .v fun s => sliceSl 1 (s.get 5) none (some (s.get 9))⟩,
    ⟨some 11, none, .v fun s => appV 1 8 (s.get 3) (s.get 10)⟩,
    ⟨some 12, none, .v fun s => bslF 0 (bslA 4 0 [.int .i64 0, .int .i64 0, .int .i64 0, .int .i64 0] [])⟩,
    ⟨some 13, none, .v fun s => fieldA 1 (s.get 1)⟩,
    ⟨some 14, none, .v fun s => loadF false 1 (s.get 13)⟩,
    ⟨some 15, none, .v fun s => fieldA 1 (s.get 1)⟩,
    ⟨some 16, none, .v fun s => loadF false 1 (s.get 15)⟩,
    ⟨some 17, none, .v fun s => lenSl (s.get 16)⟩,
    ⟨some 18, none, .v fun s => foldA min2A (s.get 17) [(.int .i64 25)]⟩,
    ⟨some 19, none, .v fun s => sliceSl 4 (s.get 14) none (some (s.get 18))⟩,
    ⟨some 20, none, .v fun s => appV 4 32 (s.get 12) (s.get 19)⟩,
    ⟨some 21, none, .v fun s => bldA (plc [(0, 1), (1, 1)]) [.nils, .nils] [(0, (s.get 11)), (1, (s.get 20))]⟩,
    ⟨none, none, .w false (some 19) fun s => stA true 2 s.m (s.get 2) (s.get 21)⟩] K s := (den_regD hf r1_draw K s).trans (by kernel_rfl)
theorem ret_eq (K : List Item) (s : St) : den prog ann 17 (.code .ret :: K) s = finM true [fun s => loadA true 2 s.m (s.get 2)] s := (den_ret hf K s).trans (by kernel_rfl)
theorem nil_eq (s : St) : den prog ann 17 [] s = finM true [fun s => loadA true 2 s.m (s.get 2)] s := (den_nil hf s).trans (by kernel_rfl)
theorem inBlock_eq (id : Nat) (K : List Item) (s : St) : den prog ann 17 (.inBlock id :: K) s = den prog ann 17 K s := den_inBlock hf id K s
theorem exit_eq (id : Nat) (K : List Item) (s : St) : den prog ann 17 (.code (.exit id) :: K) s = exitV prog ann 17 (exitTo id K) s := den_exitV hf id K s
theorem call_eq (v0 : AV) (m : Mem) (h : closedL [v0] = true) : denC prog ann 17 [v0] m = (den prog ann 17 [.code b] ⟨[(0, v0)], 22, Mem.empty⟩).bind fun r => some (r.1, m) := (denC_pure hf (b := b) (by kernel_rfl) (by kernel_rfl) (by kernel_rfl) h m).trans (by kernel_rfl)
theorem pure_eq : (ann 17).pure = true := by kernel_rfl
attribute [simp] b_eq r0_eq r1_eq ret_eq nil_eq inBlock_eq exit_eq pure_eq
end l09_cut

namespace l09_few
/-- pommel/pommellaw09.few -/
noncomputable def b : Code := (Try.f44.body).getD .skip
theorem hf : prog.funcs[44]? = some Try.f44 := by kernel_rfl
noncomputable def r0 : Code := findReg b 0
noncomputable def r1 : Code := findReg b 1
theorem b_eq (K : List Item) (s : St) : den prog ann 44 (.code b :: K) s = den prog ann 44 (.code r0 :: .code r1 :: .code .ret :: K) s := den_flat hf (l := [r0, r1, .ret]) (by kernel_rfl) K s
theorem r0_eq (K : List Item) (s : St) : den prog ann 44 (.code r0 :: K) s = mreg prog ann 44 none [] none [] [
    ⟨some 2, none, .v fun s => some (.nils)⟩] K s := (den_reg hf _ K s).trans (by kernel_rfl)
theorem r1_eq (K : List Item) (s : St) : den prog ann 44 (.code r1 :: K) s = mreg prog ann 44 none [] none [] [
    ⟨some 3, none, .v fun s => bslF 0 (bslA 1 0 [.int .i64 0] [])⟩,
    ⟨some 4, none, .v fun s => some (s.get 0)⟩,
    ⟨some 5, none, .v fun s => some (s.get 0)⟩,
    ⟨some 6, none, .v fun s => lenSl (s.get 5)⟩,
    ⟨some 7, none, .v fun s => foldA min2A (s.get 6) [(.int .i64 5)]⟩,
    ⟨some 8, none, .v fun s => sliceSl 1 (s.get 4) none (some (s.get 7))⟩,
    ⟨some 9, none, .v fun s => appV 1 8 (s.get 3) (s.get 8)⟩,
    ⟨some 2, none, .v fun s => some (s.get 9)⟩] K s := (den_reg hf _ K s).trans (by kernel_rfl)
theorem ret_eq (K : List Item) (s : St) : den prog ann 44 (.code .ret :: K) s = finM true [fun s => some (s.get 2)] s := (den_ret hf K s).trans (by kernel_rfl)
theorem nil_eq (s : St) : den prog ann 44 [] s = finM true [fun s => some (s.get 2)] s := (den_nil hf s).trans (by kernel_rfl)
theorem inBlock_eq (id : Nat) (K : List Item) (s : St) : den prog ann 44 (.inBlock id :: K) s = den prog ann 44 K s := den_inBlock hf id K s
theorem exit_eq (id : Nat) (K : List Item) (s : St) : den prog ann 44 (.code (.exit id) :: K) s = exitV prog ann 44 (exitTo id K) s := den_exitV hf id K s
theorem call_eq (v0 : AV) (m : Mem) (h : closedL [v0] = true) : denC prog ann 44 [v0] m = (den prog ann 44 [.code b] ⟨[(0, v0)], 10, Mem.empty⟩).bind fun r => some (r.1, m) := (denC_pure hf (b := b) (by kernel_rfl) (by kernel_rfl) (by kernel_rfl) h m).trans (by kernel_rfl)
theorem pure_eq : (ann 44).pure = true := by kernel_rfl
attribute [simp] b_eq r0_eq r1_eq ret_eq nil_eq inBlock_eq exit_eq pure_eq
end l09_few

namespace l09_WatchRanks
/-- pommel/pommellaw09.WatchRanks -/
noncomputable def b : Code := (Try.f3.body).getD .skip
theorem hf : prog.funcs[3]? = some Try.f3 := by kernel_rfl
noncomputable def r0 : Code := findReg b 0
noncomputable def r1 : Code := findReg b 1
noncomputable def r2 : Code := findReg b 2
noncomputable def r3 : Code := findReg b 3
noncomputable def r4 : Code := findReg b 4
noncomputable def i0 : Code := findCond b 0
noncomputable def i0t : Code := thenOf i0
noncomputable def i0e : Code := elseOf i0
noncomputable def r5 : Code := findReg b 5
noncomputable def r6 : Code := findReg b 6
noncomputable def r7 : Code := findReg b 7
noncomputable def i1 : Code := findCond b 1
noncomputable def i1t : Code := thenOf i1
noncomputable def i1e : Code := elseOf i1
noncomputable def r8 : Code := findReg b 8
noncomputable def r9 : Code := findReg b 9
noncomputable def r10 : Code := findReg b 10
theorem b_eq (K : List Item) (s : St) : den prog ann 3 (.code b :: K) s = den prog ann 3 (.code r0 :: .code r1 :: .code r2 :: .code r3 :: .code r4 :: .code i0 :: .code r10 :: .code .ret :: K) s := den_flat hf (l := [r0, r1, r2, r3, r4, i0, r10, .ret]) (by kernel_rfl) K s
theorem r0_eq (K : List Item) (s : St) : den prog ann 3 (.code r0 :: K) s = mreg prog ann 3 none [] none [] [
    ⟨some 2, none, .v fun s => frozenPtr (s.get 0)⟩,
    ⟨some 4, none, .v fun s => some (.bool false)⟩] K s := (den_reg hf _ K s).trans (by kernel_rfl)
theorem r1_eq (K : List Item) (s : St) : den prog ann 3 (.code r1 :: K) s = mreg prog ann 3 none [] none [5] [
    ⟨some 10, none, .v fun s => loadF true 2 (s.get 2)⟩,
    ⟨some 11, none, .c 0 (fun s => (.fn 17 [] [])) fun s => [(s.get 10)]⟩,
    ⟨some 5, none, .w false none fun s => newPtr s.m [.nils, .nils]⟩,
    ⟨none, none, .w false none fun s => stA true 2 s.m (s.get 5) (s.get 11)⟩] K s := (den_reg hf _ K s).trans (by kernel_rfl)
theorem r2_eq (K : List Item) (s : St) : den prog ann 3 (.code r2 :: K) s = mreg prog ann 3 none [] none [] [
    ⟨some 13, none, .v fun s => loadF true 2 (s.get 5)⟩,
    ⟨some 14, none, .v fun s => some (s.get 1)⟩,
    ⟨some 15, none, .c 2 (fun s => (.fn 18 [] [])) fun s => [(s.get 13), (s.get 14)]⟩,
    ⟨some 12, none, .v fun s => some (s.get 15)⟩,
    ⟨some 16, none, .v fun s => extA (s.get 12) 0⟩,
    ⟨some 17, none, .v fun s => extA (s.get 12) 1⟩,
    ⟨some 6, none, .v fun s => some (s.get 16)⟩,
    ⟨some 7, none, .v fun s => some (s.get 17)⟩] K s := (den_reg hf _ K s).trans (by kernel_rfl)
theorem r3_eq (K : List Item) (s : St) : den prog ann 3 (.code r3 :: K) s = mreg prog ann 3 none [] none [] [
    ⟨some 8, none, .v fun s => some (.int .i64 0)⟩] K s := (den_reg hf _ K s).trans (by kernel_rfl)
theorem r4_eq (K : List Item) (s : St) : den prog ann 3 (.code r4 :: K) s = mreg prog ann 3 none [] none [] [
    ⟨some 18, none, .v fun s => loadF true 2 (s.get 5)⟩,
    ⟨some 19, none, .c 0 (fun s => (.fn 19 [] [])) fun s => [(s.get 18)]⟩,
    ⟨some 20, none, .v fun s => unA .not (s.get 19)⟩] K s := (den_reg hf _ K s).trans (by kernel_rfl)
theorem i0_eq (K : List Item) (s : St) : den prog ann 3 (.code i0 :: K) s = ifV prog ann 3 20 i0t i0e K s (s.get 20) := den_if hf (by kernel_rfl) K s
theorem i0t_eq (K : List Item) (s : St) : den prog ann 3 (.code i0t :: K) s = den prog ann 3 (.code r5 :: K) s := den_flat hf (l := [r5]) (by kernel_rfl) K s
theorem r5_eq (K : List Item) (s : St) : den prog ann 3 (.code r5 :: K) s = mreg prog ann 3 none [] none [] [
    ⟨some 8, none, .v fun s => some (.int .i64 1)⟩] K s := (den_reg hf _ K s).trans (by kernel_rfl)
theorem i0e_eq (K : List Item) (s : St) : den prog ann 3 (.code i0e :: K) s = den prog ann 3 (.code r6 :: .code r7 :: .code i1 :: K) s := den_flat hf (l := [r6, r7, i1]) (by kernel_rfl) K s
theorem r6_eq (K : List Item) (s : St) : den prog ann 3 (.code r6 :: K) s = mreg prog ann 3 none [] none [] [
    ⟨some 21, none, .v fun s => loadF true 2 (s.get 5)⟩,
    ⟨some 22, none, .c 2 (fun s => (.fn 20 [] [])) fun s => [(s.get 21)]⟩,
    ⟨some 9, none, .v fun s => some (s.get 22)⟩] K s := (den_reg hf _ K s).trans (by kernel_rfl)
theorem r7_eq (K : List Item) (s : St) : den prog ann 3 (.code r7 :: K) s = mreg prog ann 3 none [] none [] [
    ⟨some 23, none, .v fun s => some (s.get 1)⟩,
    ⟨some 24, none, .v fun s => binA prog .lss 3 (s.get 23) (.int .i64 0)⟩,
    ⟨some 25, none, .v fun s => some (s.get 24)⟩,
    ⟨some 26, some (25, false), .v fun s => some (s.get 1)⟩,
    ⟨some 27, some (25, false), .v fun s => some (s.get 9)⟩,
    ⟨some 28, some (25, false), .v fun s => lenSl (s.get 27)⟩,
    ⟨some 29, some (25, false), .v fun s => binA prog .geq 3 (s.get 26) (s.get 28)⟩,
    ⟨some 30, none, .v fun s => pickA (s.get 25) (.bool true) (s.get 29)⟩] K s := (den_reg hf _ K s).trans (by kernel_rfl)
theorem i1_eq (K : List Item) (s : St) : den prog ann 3 (.code i1 :: K) s = ifV prog ann 3 30 i1t i1e K s (s.get 30) := den_if hf (by kernel_rfl) K s
theorem i1t_eq (K : List Item) (s : St) : den prog ann 3 (.code i1t :: K) s = den prog ann 3 (.code r8 :: K) s := den_flat hf (l := [r8]) (by kernel_rfl) K s
theorem r8_eq (K : List Item) (s : St) : den prog ann 3 (.code r8 :: K) s = mreg prog ann 3 none [] none [] [
    ⟨some 8, none, .v fun s => some (.int .i64 5)⟩] K s := (den_reg hf _ K s).trans (by kernel_rfl)
theorem i1e_eq (K : List Item) (s : St) : den prog ann 3 (.code i1e :: K) s = den prog ann 3 (.code r9 :: .code .ret :: K) s := den_flat hf (l := [r9, .ret]) (by kernel_rfl) K s
theorem r9_eq (K : List Item) (s : St) : den prog ann 3 (.code r9 :: K) s = mreg prog ann 3 none [] none [] [
    ⟨some 31, none, .v fun s => some (s.get 6)⟩,
    ⟨some 32, none, .v fun s => some (s.get 9)⟩,
    ⟨some 33, none, .v fun s => some (s.get 1)⟩,
    ⟨some 34, none, .v fun s => idxSl 1 (s.get 32) (s.get 33)⟩,
    ⟨some 35, none, .v fun s => loadF false 1 (s.get 34)⟩,
    ⟨some 36, none, .c 0 (fun s => (.fn 21 [] [])) fun s => [(s.get 31), (s.get 35)]⟩,
    ⟨some 37, none, .v fun s => some (s.get 36)⟩,
    ⟨some 38, some (37, true), .v fun s => some (s.get 7)⟩,
    ⟨some 39, some (37, true), .v fun s => binA prog .eql 27 (s.get 38) (.int .i64 0)⟩,
    ⟨some 40, none, .v fun s => pickA (s.get 37) (s.get 39) (.bool false)⟩,
    ⟨some 41, none, .v fun s => some (s.get 40)⟩,
    ⟨some 42, some (41, true), .c 0 (fun s => (.fn 22 [] [])) fun s => []⟩,
    ⟨some 43, none, .v fun s => pickA (s.get 41) (s.get 42) (.bool false)⟩,
    ⟨some 4, none, .v fun s => some (s.get 43)⟩] K s := (den_reg hf _ K s).trans (by kernel_rfl)
theorem r10_eq (K : List Item) (s : St) : den prog ann 3 (.code r10 :: K) s = mreg prog ann 3 (some [6, 7, 8]) [] none [] [
    ⟨some 44, none, .v fun s => some (s.get 6)⟩,
    ⟨some 45, none, .v fun s => lenSl (s.get 44)⟩,
    ⟨some 46, none, .v fun s => binA prog .eql 3 (s.get 45) (.int .i64 0)⟩,
    ⟨some 47, none, .v fun s => some (s.get 46)⟩,
    ⟨some 48, some (47, true), .v fun s => some (s.get 7)⟩,
    ⟨some 49, some (47, true), .v fun s => some (s.get 8)⟩,
    ⟨some 50, some (47, true), .v fun s => binA prog .eql 27 (s.get 48) (s.get 49)⟩,
    ⟨some 51, none, .v fun s => pickA (s.get 47) (s.get 50) (.bool false)⟩,
    ⟨some 52, none, .v fun s => some (s.get 51)⟩,
    ⟨some 53, some (52, true), .c 0 (fun s => (.fn 22 [] [])) fun s => []⟩,
    ⟨some 54, none, .v fun s => pickA (s.get 52) (s.get 53) (.bool false)⟩,
    ⟨some 4, none, .v fun s => some (s.get 54)⟩] K s := (den_reg hf _ K s).trans (by kernel_rfl)
theorem ret_eq (K : List Item) (s : St) : den prog ann 3 (.code .ret :: K) s = finM true [fun s => some (s.get 4)] s := (den_ret hf K s).trans (by kernel_rfl)
theorem nil_eq (s : St) : den prog ann 3 [] s = finM true [fun s => some (s.get 4)] s := (den_nil hf s).trans (by kernel_rfl)
theorem inBlock_eq (id : Nat) (K : List Item) (s : St) : den prog ann 3 (.inBlock id :: K) s = den prog ann 3 K s := den_inBlock hf id K s
theorem exit_eq (id : Nat) (K : List Item) (s : St) : den prog ann 3 (.code (.exit id) :: K) s = exitV prog ann 3 (exitTo id K) s := den_exitV hf id K s
theorem call_eq (v0 v1 : AV) (m : Mem) (h : closedL [v0, v1] = true) : denC prog ann 3 [v0, v1] m = (den prog ann 3 [.code b] ⟨[(0, v0), (1, v1)], 55, Mem.empty⟩).bind fun r => some (r.1, m) := (denC_pure hf (b := b) (by kernel_rfl) (by kernel_rfl) (by kernel_rfl) h m).trans (by kernel_rfl)
theorem pure_eq : (ann 3).pure = true := by kernel_rfl
attribute [simp] b_eq r0_eq r1_eq r2_eq r3_eq r4_eq i0_eq i0t_eq r5_eq i0e_eq r6_eq r7_eq i1_eq i1t_eq r8_eq i1e_eq r9_eq r10_eq ret_eq nil_eq inBlock_eq exit_eq pure_eq
end l09_WatchRanks
end Go.Proofs.Ytdkmepjedjclkaa
