/-
  BODIES OF FUNCTIONS OF THE PROGRAM AS SMALL OPERATIONS (written by gen.py; checked by the kernel against the program). Conditions: none.
-/
import Derived.Test.YtpghadmpegncgaaKAmH
import Derived.Test.YtpghadmpegncgaaK00
set_option linter.all false
namespace Go.Proofs.Ytpghadmpegncgaa
open Go.AM
open Go.Proofs.Try (prog)
set_option maxRecDepth 100000
set_option linter.all false

namespace strap_Round
/-- pommel/strap.Round -/
noncomputable def b : Code := (Try.f17.body).getD .skip
theorem hf : prog.funcs[17]? = some Try.f17 := by kernel_rfl
noncomputable def r0 : Code := findReg b 0
noncomputable def r1 : Code := findReg b 1
noncomputable def i0 : Code := findCond b 0
noncomputable def i0t : Code := thenOf i0
noncomputable def i0e : Code := elseOf i0
noncomputable def r2 : Code := findReg b 2
noncomputable def r3 : Code := findReg b 3
noncomputable def r4 : Code := findReg b 4
noncomputable def i1 : Code := findCond b 1
noncomputable def i1t : Code := thenOf i1
noncomputable def i1e : Code := elseOf i1
noncomputable def r5 : Code := findReg b 5
noncomputable def r6 : Code := findReg b 6
theorem b_eq (K : List Item) (s : St) : den prog ann 17 (.code b :: K) s = den prog ann 17 (.code r0 :: .code r1 :: .code i0 :: .code r3 :: .code r4 :: .code i1 :: .code r6 :: .code .ret :: K) s := den_flat hf (l := [r0, r1, i0, r3, r4, i1, r6, .ret]) (by kernel_rfl) K s
theorem r0_eq (K : List Item) (s : St) : den prog ann 17 (.code r0 :: K) s = mreg prog ann 17 none [] none [] [
    ⟨some 6, none, .v fun s => some (.nils)⟩,
    ⟨some 7, none, .v fun s => some (.int .i64 0)⟩] K s := (den_reg hf _ K s).trans (by kernel_rfl)
theorem r1_eq (K : List Item) (s : St) : den prog ann 17 (.code r1 :: K) s = mreg prog ann 17 none [] none [] [
    ⟨some 9, none, .v fun s => some (s.get 0)⟩,
    ⟨some 10, none, .v fun s => binA prog .lss 3 (s.get 9) (.int .i64 2)⟩,
    ⟨some 11, none, .v fun s => some (s.get 10)⟩,
    ⟨some 12, some (11, false), .v fun s => some (s.get 0)⟩,
    ⟨some 13, some (11, false), .v fun s => binA prog .gtr 3 (s.get 12) (.int .i64 31)⟩,
    ⟨some 14, none, .v fun s => pickA (s.get 11) (.bool true) (s.get 13)⟩,
    ⟨some 15, none, .v fun s => some (s.get 14)⟩,
    ⟨some 16, some (15, false), .v fun s => some (s.get 1)⟩,
    ⟨some 17, some (15, false), .v fun s => binA prog .lss 3 (s.get 16) (.int .i64 2)⟩,
    ⟨some 18, none, .v fun s => pickA (s.get 15) (.bool true) (s.get 17)⟩,
    ⟨some 19, none, .v fun s => some (s.get 18)⟩,
    ⟨some 20, some (19, false), .v fun s => some (s.get 1)⟩,
    ⟨some 21, some (19, false), .v fun s => some (s.get 0)⟩,
    ⟨some 22, some (19, false), .v fun s => binA prog .sub 3 (s.get 21) (.int .i64 1)⟩,
    ⟨some 23, some (19, false), .v fun s => foldA min2A (.int .i64 6) [(s.get 22)]⟩,
    ⟨some 24, some (19, false), .v fun s => binA prog .gtr 3 (s.get 20) (s.get 23)⟩,
    ⟨some 25, none, .v fun s => pickA (s.get 19) (.bool true) (s.get 24)⟩,
    ⟨some 26, none, .v fun s => some (s.get 25)⟩,
    ⟨some 27, some (26, false), .v fun s => some (s.get 2)⟩,
    ⟨some 28, some (26, false), .v fun s => binA prog .lss 3 (s.get 27) (.int .i64 1)⟩,
    ⟨some 29, none, .v fun s => pickA (s.get 26) (.bool true) (s.get 28)⟩,
    ⟨some 30, none, .v fun s => some (s.get 29)⟩,
    ⟨some 31, some (30, false), .v fun s => some (s.get 2)⟩,
    ⟨some 32, some (30, false), .v fun s => some (s.get 0)⟩,
    ⟨some 33, some (30, false), .v fun s => binA prog .gtr 3 (s.get 31) (s.get 32)⟩,
    ⟨some 34, none, .v fun s => pickA (s.get 30) (.bool true) (s.get 33)⟩] K s := (den_reg hf _ K s).trans (by kernel_rfl)
theorem i0_eq (K : List Item) (s : St) : den prog ann 17 (.code i0 :: K) s = ifV prog ann 17 34 i0t i0e K s (s.get 34) := den_if hf (by kernel_rfl) K s
theorem i0t_eq (K : List Item) (s : St) : den prog ann 17 (.code i0t :: K) s = den prog ann 17 (.code r2 :: .code .ret :: K) s := den_flat hf (l := [r2, .ret]) (by kernel_rfl) K s
theorem r2_eq (K : List Item) (s : St) : den prog ann 17 (.code r2 :: K) s = mreg prog ann 17 none [] none [] [
    ⟨some 6, none, .v fun s => some (.nils)⟩,
    ⟨some 7, none, .v fun s => some (.int .i64 1)⟩] K s := (den_reg hf _ K s).trans (by kernel_rfl)
theorem i0e_eq (K : List Item) (s : St) : den prog ann 17 (.code i0e :: K) s = den prog ann 17 (K) s := den_flat hf (l := []) (by kernel_rfl) K s
theorem r3_eq (K : List Item) (s : St) : den prog ann 17 (.code r3 :: K) s = mreg prog ann 17 none [] none [] [
    ⟨some 35, none, .v fun s => some (s.get 0)⟩,
    ⟨some 36, none, .v fun s => some (s.get 1)⟩,
    ⟨some 37, none, .v fun s => some (s.get 2)⟩,
    ⟨some 38, none, .c 0 (fun s => (.fn 46 [] [])) fun s => [(s.get 35), (s.get 36), (s.get 37)]⟩,
    ⟨some 8, none, .v fun s => some (s.get 38)⟩] K s := (den_reg hf _ K s).trans (by kernel_rfl)
theorem r4_eq (K : List Item) (s : St) : den prog ann 17 (.code r4 :: K) s = mreg prog ann 17 none [] none [] [
    ⟨some 39, none, .v fun s => some (s.get 8)⟩,
    ⟨some 40, none, .v fun s => binA prog .eql 22 (s.get 39) (.nils)⟩] K s := (den_reg hf _ K s).trans (by kernel_rfl)
theorem i1_eq (K : List Item) (s : St) : den prog ann 17 (.code i1 :: K) s = ifV prog ann 17 40 i1t i1e K s (s.get 40) := den_if hf (by kernel_rfl) K s
theorem i1t_eq (K : List Item) (s : St) : den prog ann 17 (.code i1t :: K) s = den prog ann 17 (.code r5 :: .code .ret :: K) s := den_flat hf (l := [r5, .ret]) (by kernel_rfl) K s
theorem r5_eq (K : List Item) (s : St) : den prog ann 17 (.code r5 :: K) s = mreg prog ann 17 none [] none [] [
    ⟨some 6, none, .v fun s => some (.nils)⟩,
    ⟨some 7, none, .v fun s => some (.int .i64 5)⟩] K s := (den_reg hf _ K s).trans (by kernel_rfl)
theorem i1e_eq (K : List Item) (s : St) : den prog ann 17 (.code i1e :: K) s = den prog ann 17 (K) s := den_flat hf (l := []) (by kernel_rfl) K s
theorem r6_eq (K : List Item) (s : St) : den prog ann 17 (.code r6 :: K) s = mreg prog ann 17 none [] none [] [
    ⟨some 41, none, .v fun s => some (s.get 8)⟩,
    ⟨some 6, none, .v fun s => some (s.get 41)⟩,
    ⟨some 7, none, .v fun s => some (.int .i64 0)⟩] K s := (den_reg hf _ K s).trans (by kernel_rfl)
theorem ret_eq (K : List Item) (s : St) : den prog ann 17 (.code .ret :: K) s = finM true [fun s => some (s.get 6), fun s => some (s.get 7)] s := (den_ret hf K s).trans (by kernel_rfl)
theorem nil_eq (s : St) : den prog ann 17 [] s = finM true [fun s => some (s.get 6), fun s => some (s.get 7)] s := (den_nil hf s).trans (by kernel_rfl)
theorem inBlock_eq (id : Nat) (K : List Item) (s : St) : den prog ann 17 (.inBlock id :: K) s = den prog ann 17 K s := den_inBlock hf id K s
theorem exit_eq (id : Nat) (K : List Item) (s : St) : den prog ann 17 (.code (.exit id) :: K) s = exitV prog ann 17 (exitTo id K) s := den_exitV hf id K s
theorem call_eq (v0 v1 v2 : AV) (m : Mem) (h : closedL [v0, v1, v2] = true) : denC prog ann 17 [v0, v1, v2] m = (den prog ann 17 [.code b] ⟨[(0, v0), (1, v1), (2, v2)], 42, Mem.empty⟩).bind fun r => some (r.1, m) := (denC_pure hf (b := b) (by kernel_rfl) (by kernel_rfl) (by kernel_rfl) h m).trans (by kernel_rfl)
theorem pure_eq : (ann 17).pure = true := by kernel_rfl
attribute [simp] b_eq r0_eq r1_eq i0_eq i0t_eq r2_eq i0e_eq r3_eq r4_eq i1_eq i1t_eq r5_eq i1e_eq r6_eq ret_eq nil_eq inBlock_eq exit_eq pure_eq
end strap_Round

namespace strap_round
/-- pommel/strap.round -/
noncomputable def b : Code := (Try.f46.body).getD .skip
theorem hf : prog.funcs[46]? = some Try.f46 := by kernel_rfl
noncomputable def r0 : Code := findReg b 0
noncomputable def r1 : Code := findReg b 1
noncomputable def i0 : Code := findCond b 0
noncomputable def i0t : Code := thenOf i0
noncomputable def i0e : Code := elseOf i0
noncomputable def r2 : Code := findReg b 2
noncomputable def r3 : Code := findReg b 3
noncomputable def r4 : Code := findReg b 4
noncomputable def r5 : Code := findReg b 5
theorem b_eq (K : List Item) (s : St) : den prog ann 46 (.code b :: K) s = den prog ann 46 (.code r0 :: .code r1 :: .code i0 :: .code r3 :: .code r4 :: .code r5 :: .code .ret :: K) s := den_flat hf (l := [r0, r1, i0, r3, r4, r5, .ret]) (by kernel_rfl) K s
theorem r0_eq (K : List Item) (s : St) : den prog ann 46 (.code r0 :: K) s = mreg prog ann 46 none [] none [] [
    ⟨some 3, none, .v fun s => frozenPtr (s.get 0)⟩,
    ⟨some 5, none, .v fun s => frozenPtr (s.get 2)⟩,
    ⟨some 6, none, .v fun s => some (.nils)⟩] K s := (den_reg hf _ K s).trans (by kernel_rfl)
theorem r1_eq (K : List Item) (s : St) : den prog ann 46 (.code r1 :: K) s = mreg prog ann 46 none [] none [] [
    ⟨some 9, none, .v fun s => some (s.get 1)⟩,
    ⟨some 10, none, .v fun s => some (s.get 1)⟩,
    ⟨some 11, none, .v fun s => binA prog .sub 3 (s.get 10) (.int .i64 1)⟩,
    ⟨some 12, none, .v fun s => binA prog .mul 3 (s.get 9) (s.get 11)⟩,
    ⟨some 13, none, .v fun s => loadF false 1 (s.get 5)⟩,
    ⟨some 14, none, .v fun s => loadF false 1 (s.get 3)⟩,
    ⟨some 15, none, .v fun s => binA prog .sub 3 (s.get 14) (.int .i64 1)⟩,
    ⟨some 16, none, .v fun s => binA prog .mul 3 (s.get 13) (s.get 15)⟩,
    ⟨some 17, none, .v fun s => binA prog .neq 3 (s.get 12) (s.get 16)⟩] K s := (den_reg hf _ K s).trans (by kernel_rfl)
theorem i0_eq (K : List Item) (s : St) : den prog ann 46 (.code i0 :: K) s = ifV prog ann 46 17 i0t i0e K s (s.get 17) := den_if hf (by kernel_rfl) K s
theorem i0t_eq (K : List Item) (s : St) : den prog ann 46 (.code i0t :: K) s = den prog ann 46 (.code r2 :: .code .ret :: K) s := den_flat hf (l := [r2, .ret]) (by kernel_rfl) K s
theorem r2_eq (K : List Item) (s : St) : den prog ann 46 (.code r2 :: K) s = mreg prog ann 46 none [] none [] [
    ⟨some 6, none, .v fun s => some (.nils)⟩] K s := (den_reg hf _ K s).trans (by kernel_rfl)
theorem i0e_eq (K : List Item) (s : St) : den prog ann 46 (.code i0e :: K) s = den prog ann 46 (K) s := den_flat hf (l := []) (by kernel_rfl) K s
theorem r3_eq (K : List Item) (s : St) : den prog ann 46 (.code r3 :: K) s = mreg prog ann 46 none [] none [] [
    ⟨some 18, none, .v fun s => some (.fn 65 [] [(s.get 3), (s.get 5)])⟩,
    ⟨some 7, none, .v fun s => some (s.get 18)⟩] K s := (den_reg hf _ K s).trans (by kernel_rfl)
theorem r4_eq (K : List Item) (s : St) : den prog ann 46 (.code r4 :: K) s = mreg prog ann 46 none [] none [] [
    ⟨some 8, none, .v fun s => some (.fn 66 [] [])⟩] K s := (den_reg hf _ K s).trans (by kernel_rfl)
theorem r5_eq (K : List Item) (s : St) : den prog ann 46 (.code r5 :: K) s = mreg prog ann 46 none [] none [] [
    ⟨some 19, none, .v fun s => some (s.get 1)⟩,
    ⟨some 20, none, .v fun s => loadF false 1 (s.get 3)⟩,
    ⟨some 21, none, .v fun s => binA prog .sub 3 (s.get 20) (.int .i64 1)⟩,
    ⟨some 22, none, .v fun s => some (s.get 7)⟩,
    ⟨some 23, none, .v fun s => some (s.get 8)⟩,
    ⟨some 24, none, .v fun s => bldA (plc [(0, 1), (1, 1), (2, 1), (3, 1)]) [.int .i64 0, .int .i64 0, .nilf, .nilf] [(0, (s.get 19)), (1, (s.get 21)), (2, (s.get 22)), (3, (s.get 23))]⟩,
    ⟨some 25, none, .v fun s => bslF 1 (bslA 1 1 [.int .i64 0] [(0, (.int .i64 0))])⟩,
    ⟨some 26, none, .c 2 (fun s => (.fn 43 [] [])) fun s => [(s.get 24), (s.get 25)]⟩,
    ⟨some 6, none, .v fun s => some (s.get 26)⟩] K s := (den_reg hf _ K s).trans (by kernel_rfl)
theorem ret_eq (K : List Item) (s : St) : den prog ann 46 (.code .ret :: K) s = finM true [fun s => some (s.get 6)] s := (den_ret hf K s).trans (by kernel_rfl)
theorem nil_eq (s : St) : den prog ann 46 [] s = finM true [fun s => some (s.get 6)] s := (den_nil hf s).trans (by kernel_rfl)
theorem inBlock_eq (id : Nat) (K : List Item) (s : St) : den prog ann 46 (.inBlock id :: K) s = den prog ann 46 K s := den_inBlock hf id K s
theorem exit_eq (id : Nat) (K : List Item) (s : St) : den prog ann 46 (.code (.exit id) :: K) s = exitV prog ann 46 (exitTo id K) s := den_exitV hf id K s
theorem call_eq (v0 v1 v2 : AV) (m : Mem) (h : closedL [v0, v1, v2] = true) : denC prog ann 46 [v0, v1, v2] m = (den prog ann 46 [.code b] ⟨[(0, v0), (1, v1), (2, v2)], 27, Mem.empty⟩).bind fun r => some (r.1, m) := (denC_pure hf (b := b) (by kernel_rfl) (by kernel_rfl) (by kernel_rfl) h m).trans (by kernel_rfl)
theorem pure_eq : (ann 46).pure = true := by kernel_rfl
attribute [simp] b_eq r0_eq r1_eq i0_eq i0t_eq r2_eq i0e_eq r3_eq r4_eq r5_eq ret_eq nil_eq inBlock_eq exit_eq pure_eq
end strap_round

namespace strap_round_1
/-- pommel/strap.round$1 -/
noncomputable def b : Code := (Try.f65.body).getD .skip
theorem hf : prog.funcs[65]? = some Try.f65 := by kernel_rfl
noncomputable def r0 : Code := findReg b 0
noncomputable def r1 : Code := findReg b 1
theorem b_eq (K : List Item) (s : St) : den prog ann 65 (.code b :: K) s = den prog ann 65 (.code r0 :: .code r1 :: .code .ret :: K) s := den_flat hf (l := [r0, r1, .ret]) (by kernel_rfl) K s
theorem r0_eq (K : List Item) (s : St) : den prog ann 65 (.code r0 :: K) s = mreg prog ann 65 none [] none [] [
    ⟨some 4, none, .v fun s => some (.bool false)⟩] K s := (den_reg hf _ K s).trans (by kernel_rfl)
theorem r1_draw : drawOk (fun g => (ann g).pure) (modeOf (ann 65) (idOf r1)) (frzOf (ann 65) (idOf r1)) (opsOf r1) = true := drawOk_of (an := [0, 0, 3, 7, 0, 31, 63]) (by kernel_rfl) (by kernel_rfl)
theorem r1_eq (K : List Item) (s : St) : den prog ann 65 (.code r1 :: K) s = mreg prog ann 65 none [] (some 7) [] [
    ⟨some 5, none, .v fun s => loadA false 1 s.m (s.get 1)⟩,
    ⟨some 6, none, .v fun s => some (s.get 0)⟩,
    ⟨some 7, none, .c 0 (fun s => (.fn 56 [] [])) fun s => [(s.get 5), (s.get 6)]⟩,
    ⟨some 8, none, .c 0 (fun s => (.fn 58 [] [])) fun s => [(s.get 7)]⟩,
    ⟨some 9, none, .v fun s => loadA false 1 s.m (s.get 2)⟩,
    ⟨some 10, none, .v fun s => binA prog .leq 3 (s.get 8) (s.get 9)⟩,
    ⟨some 4, none, .v fun s => some (s.get 10)⟩] K s := (den_regD hf r1_draw K s).trans (by kernel_rfl)
theorem ret_eq (K : List Item) (s : St) : den prog ann 65 (.code .ret :: K) s = finM false [fun s => some (s.get 4)] s := (den_ret hf K s).trans (by kernel_rfl)
theorem nil_eq (s : St) : den prog ann 65 [] s = finM false [fun s => some (s.get 4)] s := (den_nil hf s).trans (by kernel_rfl)
theorem inBlock_eq (id : Nat) (K : List Item) (s : St) : den prog ann 65 (.inBlock id :: K) s = den prog ann 65 K s := den_inBlock hf id K s
theorem exit_eq (id : Nat) (K : List Item) (s : St) : den prog ann 65 (.code (.exit id) :: K) s = exitV prog ann 65 (exitTo id K) s := den_exitV hf id K s
theorem call_eq (v0 v1 v2 : AV) (m : Mem) : denC prog ann 65 [v0, v1, v2] m = den prog ann 65 [.code b] ⟨[(0, v0), (1, v1), (2, v2)], 11, m⟩ := (denC_impure hf (b := b) (by kernel_rfl) (by kernel_rfl) (by kernel_rfl) m).trans (by kernel_rfl)
theorem pure_eq : (ann 65).pure = false := by kernel_rfl
attribute [simp] b_eq r0_eq r1_eq ret_eq nil_eq inBlock_eq exit_eq pure_eq
end strap_round_1

namespace strap_round_2
/-- pommel/strap.round$2 -/
noncomputable def b : Code := (Try.f66.body).getD .skip
theorem hf : prog.funcs[66]? = some Try.f66 := by kernel_rfl
noncomputable def r0 : Code := findReg b 0
noncomputable def r1 : Code := findReg b 1
theorem b_eq (K : List Item) (s : St) : den prog ann 66 (.code b :: K) s = den prog ann 66 (.code r0 :: .code r1 :: .code .ret :: K) s := den_flat hf (l := [r0, r1, .ret]) (by kernel_rfl) K s
theorem r0_eq (K : List Item) (s : St) : den prog ann 66 (.code r0 :: K) s = mreg prog ann 66 none [] none [] [
    ⟨some 2, none, .v fun s => some (.bool false)⟩] K s := (den_reg hf _ K s).trans (by kernel_rfl)
theorem r1_eq (K : List Item) (s : St) : den prog ann 66 (.code r1 :: K) s = mreg prog ann 66 none [] none [] [
    ⟨some 2, none, .v fun s => some (.bool true)⟩] K s := (den_reg hf _ K s).trans (by kernel_rfl)
theorem ret_eq (K : List Item) (s : St) : den prog ann 66 (.code .ret :: K) s = finM true [fun s => some (s.get 2)] s := (den_ret hf K s).trans (by kernel_rfl)
theorem nil_eq (s : St) : den prog ann 66 [] s = finM true [fun s => some (s.get 2)] s := (den_nil hf s).trans (by kernel_rfl)
theorem inBlock_eq (id : Nat) (K : List Item) (s : St) : den prog ann 66 (.inBlock id :: K) s = den prog ann 66 K s := den_inBlock hf id K s
theorem exit_eq (id : Nat) (K : List Item) (s : St) : den prog ann 66 (.code (.exit id) :: K) s = exitV prog ann 66 (exitTo id K) s := den_exitV hf id K s
theorem call_eq (v0 : AV) (m : Mem) (h : closedL [v0] = true) : denC prog ann 66 [v0] m = (den prog ann 66 [.code b] ⟨[(0, v0)], 3, Mem.empty⟩).bind fun r => some (r.1, m) := (denC_pure hf (b := b) (by kernel_rfl) (by kernel_rfl) (by kernel_rfl) h m).trans (by kernel_rfl)
theorem pure_eq : (ann 66).pure = true := by kernel_rfl
attribute [simp] b_eq r0_eq r1_eq ret_eq nil_eq inBlock_eq exit_eq pure_eq
end strap_round_2

namespace r04_Round
/-- pommel/pommelref04.Round -/
noncomputable def b : Code := (Try.f18.body).getD .skip
theorem hf : prog.funcs[18]? = some Try.f18 := by kernel_rfl
noncomputable def r0 : Code := findReg b 0
noncomputable def r1 : Code := findReg b 1
noncomputable def i0 : Code := findCond b 0
noncomputable def i0t : Code := thenOf i0
noncomputable def i0e : Code := elseOf i0
noncomputable def r2 : Code := findReg b 2
noncomputable def r3 : Code := findReg b 3
noncomputable def i1 : Code := findCond b 1
noncomputable def i1t : Code := thenOf i1
noncomputable def i1e : Code := elseOf i1
noncomputable def r4 : Code := findReg b 4
noncomputable def r5 : Code := findReg b 5
noncomputable def r6 : Code := findReg b 6
noncomputable def r7 : Code := findReg b 7
noncomputable def i2 : Code := findCond b 2
noncomputable def i2t : Code := thenOf i2
noncomputable def i2e : Code := elseOf i2
noncomputable def r8 : Code := findReg b 8
noncomputable def r9 : Code := findReg b 9
noncomputable def k0 : Code := findBlk b 0
noncomputable def l0 : Code := loopOf k0
noncomputable def L0 (x0 x1 x2 x3 x12 : AV) (m : Mem) (K : List Item) : Option Res := den prog ann 18 (.code l0 :: .inLoop l0 :: .inBlock 0 :: K) ⟨[(0, x0), (1, x1), (2, x2), (3, x3), (12, x12)], 67, m⟩
noncomputable def r10 : Code := findReg b 10
noncomputable def i3 : Code := findCond b 3
noncomputable def i3t : Code := thenOf i3
noncomputable def i3e : Code := elseOf i3
noncomputable def k1 : Code := findBlk b 1
noncomputable def r12 : Code := findReg b 12
noncomputable def i4 : Code := findCond b 4
noncomputable def i4t : Code := thenOf i4
noncomputable def i4e : Code := elseOf i4
noncomputable def r13 : Code := findReg b 13
noncomputable def r14 : Code := findReg b 14
noncomputable def r15 : Code := findReg b 15
noncomputable def i5 : Code := findCond b 5
noncomputable def i5t : Code := thenOf i5
noncomputable def i5e : Code := elseOf i5
noncomputable def r16 : Code := findReg b 16
noncomputable def r11 : Code := findReg b 11
noncomputable def r17 : Code := findReg b 17
theorem b_eq (K : List Item) (s : St) : den prog ann 18 (.code b :: K) s = den prog ann 18 (.code r0 :: .code r1 :: .code i0 :: .code r6 :: .code r7 :: .code i2 :: .code r9 :: .code k0 :: .code r17 :: .code .ret :: K) s := den_flat hf (l := [r0, r1, i0, r6, r7, i2, r9, k0, r17, .ret]) (by kernel_rfl) K s
theorem r0_eq (K : List Item) (s : St) : den prog ann 18 (.code r0 :: K) s = mreg prog ann 18 none [] none [] [
    ⟨some 8, none, .v fun s => some (.nils)⟩] K s := (den_reg hf _ K s).trans (by kernel_rfl)
theorem r1_eq (K : List Item) (s : St) : den prog ann 18 (.code r1 :: K) s = mreg prog ann 18 none [] none [] [
    ⟨some 14, none, .v fun s => some (s.get 3)⟩,
    ⟨some 15, none, .v fun s => lenSl (s.get 14)⟩,
    ⟨some 16, none, .v fun s => some (s.get 1)⟩,
    ⟨some 17, none, .v fun s => binA prog .eql 3 (s.get 15) (s.get 16)⟩] K s := (den_reg hf _ K s).trans (by kernel_rfl)
theorem i0_eq (K : List Item) (s : St) : den prog ann 18 (.code i0 :: K) s = ifV prog ann 18 17 i0t i0e K s (s.get 17) := den_if hf (by kernel_rfl) K s
theorem i0t_eq (K : List Item) (s : St) : den prog ann 18 (.code i0t :: K) s = den prog ann 18 (.code r2 :: .code r3 :: .code i1 :: .code r5 :: .code .ret :: K) s := den_flat hf (l := [r2, r3, i1, r5, .ret]) (by kernel_rfl) K s
theorem r2_eq (K : List Item) (s : St) : den prog ann 18 (.code r2 :: K) s = mreg prog ann 18 none [] none [] [
    ⟨some 19, none, .v fun s => some (s.get 0)⟩,
    ⟨some 20, none, .v fun s => some (s.get 3)⟩,
    ⟨some 21, none, .c 0 (fun s => (.fn 33 [] [])) fun s => [(s.get 19), (s.get 20)]⟩,
    ⟨some 18, none, .v fun s => some (s.get 21)⟩,
    ⟨some 22, none, .v fun s => extA (s.get 18) 0⟩,
    ⟨some 23, none, .v fun s => extA (s.get 18) 1⟩,
    ⟨some 9, none, .v fun s => some (s.get 22)⟩,
    ⟨some 10, none, .v fun s => some (s.get 23)⟩] K s := (den_reg hf _ K s).trans (by kernel_rfl)
theorem r3_eq (K : List Item) (s : St) : den prog ann 18 (.code r3 :: K) s = mreg prog ann 18 none [] none [] [
    ⟨some 24, none, .v fun s => some (s.get 10)⟩,
    ⟨some 25, none, .v fun s => some (s.get 24)⟩,
    ⟨some 26, some (25, true), .v fun s => some (s.get 9)⟩,
    ⟨some 27, some (25, true), .v fun s => some (s.get 2)⟩,
    ⟨some 28, some (25, true), .v fun s => binA prog .eql 3 (s.get 26) (s.get 27)⟩,
    ⟨some 29, none, .v fun s => pickA (s.get 25) (s.get 28) (.bool false)⟩] K s := (den_reg hf _ K s).trans (by kernel_rfl)
theorem i1_eq (K : List Item) (s : St) : den prog ann 18 (.code i1 :: K) s = ifV prog ann 18 29 i1t i1e K s (s.get 29) := den_if hf (by kernel_rfl) K s
theorem i1t_eq (K : List Item) (s : St) : den prog ann 18 (.code i1t :: K) s = den prog ann 18 (.code r4 :: .code .ret :: K) s := den_flat hf (l := [r4, .ret]) (by kernel_rfl) K s
theorem r4_eq (K : List Item) (s : St) : den prog ann 18 (.code r4 :: K) s = mreg prog ann 18 none [] none [] [
    ⟨some 30, none, .v fun s => some (s.get 3)⟩,
    ⟨some 8, none, .v fun s => some (s.get 30)⟩] K s := (den_reg hf _ K s).trans (by kernel_rfl)
theorem i1e_eq (K : List Item) (s : St) : den prog ann 18 (.code i1e :: K) s = den prog ann 18 (K) s := den_flat hf (l := []) (by kernel_rfl) K s
theorem r5_eq (K : List Item) (s : St) : den prog ann 18 (.code r5 :: K) s = mreg prog ann 18 none [] none [] [
    ⟨some 8, none, .v fun s => some (.nils)⟩] K s := (den_reg hf _ K s).trans (by kernel_rfl)
theorem i0e_eq (K : List Item) (s : St) : den prog ann 18 (.code i0e :: K) s = den prog ann 18 (K) s := den_flat hf (l := []) (by kernel_rfl) K s
theorem r6_eq (K : List Item) (s : St) : den prog ann 18 (.code r6 :: K) s = mreg prog ann 18 none [] none [] [
    ⟨some 11, none, .v fun s => some (.int .i64 0)⟩] K s := (den_reg hf _ K s).trans (by kernel_rfl)
theorem r7_eq (K : List Item) (s : St) : den prog ann 18 (.code r7 :: K) s = mreg prog ann 18 none [] none [] [
    ⟨some 31, none, .v fun s => some (s.get 3)⟩,
    ⟨some 32, none, .v fun s => lenSl (s.get 31)⟩,
    ⟨some 33, none, .v fun s => binA prog .gtr 3 (s.get 32) (.int .i64 0)⟩] K s := (den_reg hf _ K s).trans (by kernel_rfl)
theorem i2_eq (K : List Item) (s : St) : den prog ann 18 (.code i2 :: K) s = ifV prog ann 18 33 i2t i2e K s (s.get 33) := den_if hf (by kernel_rfl) K s
theorem i2t_eq (K : List Item) (s : St) : den prog ann 18 (.code i2t :: K) s = den prog ann 18 (.code r8 :: K) s := den_flat hf (l := [r8]) (by kernel_rfl) K s
theorem r8_eq (K : List Item) (s : St) : den prog ann 18 (.code r8 :: K) s = mreg prog ann 18 none [] none [] [
    ⟨some 34, none, .v fun s => some (s.get 3)⟩,
    ⟨some 35, none, .v fun s => some (s.get 3)⟩,
    ⟨some 36, none, .v fun s => lenSl (s.get 35)⟩,
    ⟨some 37, none, .v fun s => binA prog .sub 3 (s.get 36) (.int .i64 1)⟩,
    ⟨some 38, none, .v fun s => idxSl 1 (s.get 34) (s.get 37)⟩,
    ⟨some 39, none, .v fun s => loadF false 1 (s.get 38)⟩,
    ⟨some 40, none, .v fun s => binA prog .add 3 (s.get 39) (.int .i64 1)⟩,
    ⟨some 11, none, .v fun s => some (s.get 40)⟩] K s := (den_reg hf _ K s).trans (by kernel_rfl)
theorem i2e_eq (K : List Item) (s : St) : den prog ann 18 (.code i2e :: K) s = den prog ann 18 (K) s := den_flat hf (l := []) (by kernel_rfl) K s
theorem r9_eq (K : List Item) (s : St) : den prog ann 18 (.code r9 :: K) s = mreg prog ann 18 (some [0, 1, 2, 3, 11]) [] none [] [
    ⟨some 41, none, .v fun s => some (s.get 11)⟩,
    ⟨some 12, none, .v fun s => some (s.get 41)⟩] K s := (den_reg hf _ K s).trans (by kernel_rfl)
theorem k0_eq (K : List Item) (t : List (Nat × AV)) (m : Mem) : den prog ann 18 (.code k0 :: K) ⟨t, 67, m⟩ = L0 (get t 0) (get t 1) (get t 2) (get t 3) (get t 12) m K := den_loop_enter hf (b := l0) (id := 10) (l := [0, 1, 2, 3, 12]) (by kernel_rfl) (by kernel_rfl) (by kernel_rfl) K _
theorem l0_eq (K : List Item) (t : List (Nat × AV)) (m : Mem) : den prog ann 18 (.inLoop l0 :: .inBlock 0 :: K) ⟨t, 67, m⟩ = L0 (get t 0) (get t 1) (get t 2) (get t 3) (get t 12) m K := den_loop_again hf (id := 10) (l := [0, 1, 2, 3, 12]) (by kernel_rfl) (by kernel_rfl) (.inBlock 0 :: K) _
theorem L0_eq (x0 x1 x2 x3 x12 : AV) (m : Mem) (K : List Item) : L0 x0 x1 x2 x3 x12 m K = den prog ann 18 (.code r10 :: .code i3 :: .code k1 :: .code r11 :: .inLoop l0 :: .inBlock 0 :: K) ⟨[(0, x0), (1, x1), (2, x2), (3, x3), (12, x12)], 67, m⟩ := den_flat hf (l := [r10, i3, k1, r11]) (by kernel_rfl) _ _
theorem r10_eq (K : List Item) (s : St) : den prog ann 18 (.code r10 :: K) s = mreg prog ann 18 (some [0, 1, 2, 3, 12]) [] none [] [
    ⟨some 42, none, .v fun s => some (s.get 12)⟩,
    ⟨some 43, none, .v fun s => some (s.get 0)⟩,
    ⟨some 44, none, .v fun s => binA prog .lss 3 (s.get 42) (s.get 43)⟩] K s := (den_reg hf _ K s).trans (by kernel_rfl)
theorem i3_eq (K : List Item) (s : St) : den prog ann 18 (.code i3 :: K) s = ifV prog ann 18 44 i3t i3e K s (s.get 44) := den_if hf (by kernel_rfl) K s
theorem i3t_eq (K : List Item) (s : St) : den prog ann 18 (.code i3t :: K) s = den prog ann 18 (K) s := den_flat hf (l := []) (by kernel_rfl) K s
theorem i3e_eq (K : List Item) (s : St) : den prog ann 18 (.code i3e :: K) s = den prog ann 18 (.code (.exit 0) :: K) s := den_flat hf (l := [(.exit 0)]) (by kernel_rfl) K s
theorem k1_eq (K : List Item) (s : St) : den prog ann 18 (.code k1 :: K) s = den prog ann 18 (.code r12 :: .code i4 :: .code r14 :: .code r15 :: .code i5 :: .inBlock 1 :: K) s := den_blk hf (b := blkOf k1) (l := [r12, i4, r14, r15, i5]) (by kernel_rfl) (by kernel_rfl) K s
theorem r12_eq (K : List Item) (s : St) : den prog ann 18 (.code r12 :: K) s = mreg prog ann 18 none [] none [] [
    ⟨some 47, none, .v fun s => some (s.get 3)⟩,
    ⟨some 48, none, .v fun s => lenSl (s.get 47)⟩,
    ⟨some 49, none, .v fun s => binA prog .eql 3 (s.get 48) (.int .i64 0)⟩,
    ⟨some 50, none, .v fun s => some (s.get 49)⟩,
    ⟨some 51, some (50, true), .v fun s => some (s.get 12)⟩,
    ⟨some 52, some (50, true), .v fun s => binA prog .gtr 3 (s.get 51) (.int .i64 0)⟩,
    ⟨some 53, none, .v fun s => pickA (s.get 50) (s.get 52) (.bool false)⟩] K s := (den_reg hf _ K s).trans (by kernel_rfl)
theorem i4_eq (K : List Item) (s : St) : den prog ann 18 (.code i4 :: K) s = ifV prog ann 18 53 i4t i4e K s (s.get 53) := den_if hf (by kernel_rfl) K s
theorem i4t_eq (K : List Item) (s : St) : den prog ann 18 (.code i4t :: K) s = den prog ann 18 (.code r13 :: .code .ret :: K) s := den_flat hf (l := [r13, .ret]) (by kernel_rfl) K s
theorem r13_eq (K : List Item) (s : St) : den prog ann 18 (.code r13 :: K) s = mreg prog ann 18 none [] none [] [
    ⟨some 8, none, .v fun s => some (.nils)⟩] K s := (den_reg hf _ K s).trans (by kernel_rfl)
theorem i4e_eq (K : List Item) (s : St) : den prog ann 18 (.code i4e :: K) s = den prog ann 18 (K) s := den_flat hf (l := []) (by kernel_rfl) K s
theorem r14_eq (K : List Item) (s : St) : den prog ann 18 (.code r14 :: K) s = mreg prog ann 18 none [] none [] [
    ⟨some 54, none, .v fun s => some (s.get 0)⟩,
    ⟨some 55, none, .v fun s => some (s.get 1)⟩,
    ⟨some 56, none, .v fun s => some (s.get 2)⟩,
    ⟨some 57, none, .w false none fun s => bslM s.m 0 (bslA 1 0 [.int .i64 0] [])⟩,
    ⟨some 58, none, .v fun s => some (s.get 3)⟩,
    ⟨some 59, none, .w false none fun s => appendA 1 8 s.m (s.get 57) (s.get 58)⟩,
    ⟨some 60, none, .v fun s => some (s.get 12)⟩,
    ⟨some 61, none, .v fun s => bslF 1 (bslA 1 1 [.int .i64 0] [(0, (s.get 60))])⟩,
    ⟨some 62, none, .w true none fun s => appendA 1 8 s.m (s.get 59) (s.get 61)⟩,
    ⟨some 63, none, .c 2 (fun s => (.fn 18 [] [])) fun s => [(s.get 54), (s.get 55), (s.get 56), (s.get 62)]⟩,
    ⟨some 13, none, .v fun s => some (s.get 63)⟩] K s := (den_reg hf _ K s).trans (by kernel_rfl)
theorem r15_eq (K : List Item) (s : St) : den prog ann 18 (.code r15 :: K) s = mreg prog ann 18 none [] none [] [
    ⟨some 64, none, .v fun s => some (s.get 13)⟩,
    ⟨some 65, none, .v fun s => binA prog .neq 22 (s.get 64) (.nils)⟩] K s := (den_reg hf _ K s).trans (by kernel_rfl)
theorem i5_eq (K : List Item) (s : St) : den prog ann 18 (.code i5 :: K) s = ifV prog ann 18 65 i5t i5e K s (s.get 65) := den_if hf (by kernel_rfl) K s
theorem i5t_eq (K : List Item) (s : St) : den prog ann 18 (.code i5t :: K) s = den prog ann 18 (.code r16 :: .code .ret :: K) s := den_flat hf (l := [r16, .ret]) (by kernel_rfl) K s
theorem r16_eq (K : List Item) (s : St) : den prog ann 18 (.code r16 :: K) s = mreg prog ann 18 none [] none [] [
    ⟨some 66, none, .v fun s => some (s.get 13)⟩,
    ⟨some 8, none, .v fun s => some (s.get 66)⟩] K s := (den_reg hf _ K s).trans (by kernel_rfl)
theorem i5e_eq (K : List Item) (s : St) : den prog ann 18 (.code i5e :: K) s = den prog ann 18 (K) s := den_flat hf (l := []) (by kernel_rfl) K s
theorem r11_eq (K : List Item) (s : St) : den prog ann 18 (.code r11 :: K) s = mreg prog ann 18 (some [0, 1, 2, 3, 12]) [] none [] [
    ⟨some 45, none, .v fun s => some (s.get 12)⟩,
    ⟨some 46, none, .v fun s => binA prog .add 3 (s.get 45) (.int .i64 1)⟩,
    ⟨some 12, none, .v fun s => some (s.get 46)⟩] K s := (den_reg hf _ K s).trans (by kernel_rfl)
theorem r17_eq (K : List Item) (s : St) : den prog ann 18 (.code r17 :: K) s = mreg prog ann 18 (some []) [] none [] [
    ⟨some 8, none, .v fun s => some (.nils)⟩] K s := (den_reg hf _ K s).trans (by kernel_rfl)
theorem ret_eq (K : List Item) (s : St) : den prog ann 18 (.code .ret :: K) s = finM true [fun s => some (s.get 8)] s := (den_ret hf K s).trans (by kernel_rfl)
theorem nil_eq (s : St) : den prog ann 18 [] s = finM true [fun s => some (s.get 8)] s := (den_nil hf s).trans (by kernel_rfl)
theorem inBlock_eq (id : Nat) (K : List Item) (s : St) : den prog ann 18 (.inBlock id :: K) s = den prog ann 18 K s := den_inBlock hf id K s
theorem exit_eq (id : Nat) (K : List Item) (s : St) : den prog ann 18 (.code (.exit id) :: K) s = exitV prog ann 18 (exitTo id K) s := den_exitV hf id K s
theorem call_eq (v0 v1 v2 v3 : AV) (m : Mem) (h : closedL [v0, v1, v2, v3] = true) : denC prog ann 18 [v0, v1, v2, v3] m = (den prog ann 18 [.code b] ⟨[(0, v0), (1, v1), (2, v2), (3, v3)], 67, Mem.empty⟩).bind fun r => some (r.1, m) := (denC_pure hf (b := b) (by kernel_rfl) (by kernel_rfl) (by kernel_rfl) h m).trans (by kernel_rfl)
theorem pure_eq : (ann 18).pure = true := by kernel_rfl
attribute [simp] b_eq r0_eq r1_eq i0_eq i0t_eq r2_eq r3_eq i1_eq i1t_eq r4_eq i1e_eq r5_eq i0e_eq r6_eq r7_eq i2_eq i2t_eq r8_eq i2e_eq r9_eq k0_eq l0_eq r10_eq i3_eq i3t_eq i3e_eq k1_eq r12_eq i4_eq i4t_eq r13_eq i4e_eq r14_eq r15_eq i5_eq i5t_eq r16_eq i5e_eq r11_eq r17_eq ret_eq nil_eq inBlock_eq exit_eq pure_eq
end r04_Round

namespace r04_Even
/-- pommel/pommelref04.Even -/
noncomputable def b : Code := (Try.f33.body).getD .skip
theorem hf : prog.funcs[33]? = some Try.f33 := by kernel_rfl
noncomputable def r0 : Code := findReg b 0
noncomputable def r1 : Code := findReg b 1
noncomputable def r2 : Code := findReg b 2
noncomputable def k0 : Code := findBlk b 0
noncomputable def l0 : Code := loopOf k0
noncomputable def L0 (x0 x1 x6 x7 : AV) (m : Mem) (K : List Item) : Option Res := den prog ann 33 (.code l0 :: .inLoop l0 :: .inBlock 0 :: K) ⟨[(0, x0), (1, x1), (6, x6), (7, x7)], 61, m⟩
noncomputable def r3 : Code := findReg b 3
noncomputable def i0 : Code := findCond b 0
noncomputable def i0t : Code := thenOf i0
noncomputable def i0e : Code := elseOf i0
noncomputable def k1 : Code := findBlk b 1
noncomputable def r5 : Code := findReg b 5
noncomputable def k2 : Code := findBlk b 2
noncomputable def l2 : Code := loopOf k2
noncomputable def L2 (x0 x1 x6 x7 x8 : AV) (m : Mem) (K : List Item) : Option Res := den prog ann 33 (.code l2 :: .inLoop l2 :: .inBlock 2 :: K) ⟨[(0, x0), (1, x1), (6, x6), (7, x7), (8, x8)], 61, m⟩
noncomputable def r6 : Code := findReg b 6
noncomputable def i1 : Code := findCond b 1
noncomputable def i1t : Code := thenOf i1
noncomputable def i1e : Code := elseOf i1
noncomputable def k3 : Code := findBlk b 3
noncomputable def r8 : Code := findReg b 8
noncomputable def i2 : Code := findCond b 2
noncomputable def i2t : Code := thenOf i2
noncomputable def i2e : Code := elseOf i2
noncomputable def r9 : Code := findReg b 9
noncomputable def r7 : Code := findReg b 7
noncomputable def r4 : Code := findReg b 4
noncomputable def r10 : Code := findReg b 10
noncomputable def k4 : Code := findBlk b 4
noncomputable def l4 : Code := loopOf k4
noncomputable def L4 (x0 x6 x9 : AV) (m : Mem) (K : List Item) : Option Res := den prog ann 33 (.code l4 :: .inLoop l4 :: .inBlock 4 :: K) ⟨[(0, x0), (6, x6), (9, x9)], 61, m⟩
noncomputable def r11 : Code := findReg b 11
noncomputable def i3 : Code := findCond b 3
noncomputable def i3t : Code := thenOf i3
noncomputable def i3e : Code := elseOf i3
noncomputable def k5 : Code := findBlk b 5
noncomputable def r13 : Code := findReg b 13
noncomputable def i4 : Code := findCond b 4
noncomputable def i4t : Code := thenOf i4
noncomputable def i4e : Code := elseOf i4
noncomputable def r14 : Code := findReg b 14
noncomputable def r12 : Code := findReg b 12
noncomputable def r15 : Code := findReg b 15
theorem b_eq (K : List Item) (s : St) : den prog ann 33 (.code b :: K) s = den prog ann 33 (.code r0 :: .code r1 :: .code r2 :: .code k0 :: .code r10 :: .code k4 :: .code r15 :: .code .ret :: K) s := den_flat hf (l := [r0, r1, r2, k0, r10, k4, r15, .ret]) (by kernel_rfl) K s
theorem r0_eq (K : List Item) (s : St) : den prog ann 33 (.code r0 :: K) s = mreg prog ann 33 none [] none [] [
    ⟨some 4, none, .v fun s => some (.int .i64 0)⟩,
    ⟨some 5, none, .v fun s => some (.bool false)⟩] K s := (den_reg hf _ K s).trans (by kernel_rfl)
theorem r1_eq (K : List Item) (s : St) : den prog ann 33 (.code r1 :: K) s = mreg prog ann 33 none [] none [] [
    ⟨some 10, none, .v fun s => some (s.get 0)⟩,
    ⟨some 11, none, .w false none fun s => makeA 1 8 (.int .i64 0) s.m (s.get 10) (s.get 10)⟩,
    ⟨some 6, none, .v fun s => some (s.get 11)⟩] K s := (den_reg hf _ K s).trans (by kernel_rfl)
theorem r2_eq (K : List Item) (s : St) : den prog ann 33 (.code r2 :: K) s = mreg prog ann 33 none [] none [] [
    ⟨some 7, none, .v fun s => some (.int .i64 0)⟩] K s := (den_reg hf _ K s).trans (by kernel_rfl)
theorem k0_eq (K : List Item) (t : List (Nat × AV)) (m : Mem) : den prog ann 33 (.code k0 :: K) ⟨t, 61, m⟩ = L0 (get t 0) (get t 1) (get t 6) (get t 7) m K := den_loop_enter hf (b := l0) (id := 3) (l := [0, 1, 6, 7]) (by kernel_rfl) (by kernel_rfl) (by kernel_rfl) K _
theorem l0_eq (K : List Item) (t : List (Nat × AV)) (m : Mem) : den prog ann 33 (.inLoop l0 :: .inBlock 0 :: K) ⟨t, 61, m⟩ = L0 (get t 0) (get t 1) (get t 6) (get t 7) m K := den_loop_again hf (id := 3) (l := [0, 1, 6, 7]) (by kernel_rfl) (by kernel_rfl) (.inBlock 0 :: K) _
theorem L0_eq (x0 x1 x6 x7 : AV) (m : Mem) (K : List Item) : L0 x0 x1 x6 x7 m K = den prog ann 33 (.code r3 :: .code i0 :: .code k1 :: .code r4 :: .inLoop l0 :: .inBlock 0 :: K) ⟨[(0, x0), (1, x1), (6, x6), (7, x7)], 61, m⟩ := den_flat hf (l := [r3, i0, k1, r4]) (by kernel_rfl) _ _
theorem r3_eq (K : List Item) (s : St) : den prog ann 33 (.code r3 :: K) s = mreg prog ann 33 (some [0, 1, 6, 7]) [] none [] [
    ⟨some 12, none, .v fun s => some (s.get 7)⟩,
    ⟨some 13, none, .v fun s => some (s.get 1)⟩,
    ⟨some 14, none, .v fun s => lenSl (s.get 13)⟩,
    ⟨some 15, none, .v fun s => binA prog .lss 3 (s.get 12) (s.get 14)⟩] K s := (den_reg hf _ K s).trans (by kernel_rfl)
theorem i0_eq (K : List Item) (s : St) : den prog ann 33 (.code i0 :: K) s = ifV prog ann 33 15 i0t i0e K s (s.get 15) := den_if hf (by kernel_rfl) K s
theorem i0t_eq (K : List Item) (s : St) : den prog ann 33 (.code i0t :: K) s = den prog ann 33 (K) s := den_flat hf (l := []) (by kernel_rfl) K s
theorem i0e_eq (K : List Item) (s : St) : den prog ann 33 (.code i0e :: K) s = den prog ann 33 (.code (.exit 0) :: K) s := den_flat hf (l := [(.exit 0)]) (by kernel_rfl) K s
theorem k1_eq (K : List Item) (s : St) : den prog ann 33 (.code k1 :: K) s = den prog ann 33 (.code r5 :: .code k2 :: .inBlock 1 :: K) s := den_blk hf (b := blkOf k1) (l := [r5, k2]) (by kernel_rfl) (by kernel_rfl) K s
theorem r5_eq (K : List Item) (s : St) : den prog ann 33 (.code r5 :: K) s = mreg prog ann 33 none [] none [] [
    ⟨some 8, none, .v fun s => some (.int .i64 0)⟩] K s := (den_reg hf _ K s).trans (by kernel_rfl)
theorem k2_eq (K : List Item) (t : List (Nat × AV)) (m : Mem) : den prog ann 33 (.code k2 :: K) ⟨t, 61, m⟩ = L2 (get t 0) (get t 1) (get t 6) (get t 7) (get t 8) m K := den_loop_enter hf (b := l2) (id := 6) (l := [0, 1, 6, 7, 8]) (by kernel_rfl) (by kernel_rfl) (by kernel_rfl) K _
theorem l2_eq (K : List Item) (t : List (Nat × AV)) (m : Mem) : den prog ann 33 (.inLoop l2 :: .inBlock 2 :: K) ⟨t, 61, m⟩ = L2 (get t 0) (get t 1) (get t 6) (get t 7) (get t 8) m K := den_loop_again hf (id := 6) (l := [0, 1, 6, 7, 8]) (by kernel_rfl) (by kernel_rfl) (.inBlock 2 :: K) _
theorem L2_eq (x0 x1 x6 x7 x8 : AV) (m : Mem) (K : List Item) : L2 x0 x1 x6 x7 x8 m K = den prog ann 33 (.code r6 :: .code i1 :: .code k3 :: .code r7 :: .inLoop l2 :: .inBlock 2 :: K) ⟨[(0, x0), (1, x1), (6, x6), (7, x7), (8, x8)], 61, m⟩ := den_flat hf (l := [r6, i1, k3, r7]) (by kernel_rfl) _ _
theorem r6_eq (K : List Item) (s : St) : den prog ann 33 (.code r6 :: K) s = mreg prog ann 33 (some [0, 1, 6, 7, 8]) [] none [] [
    ⟨some 18, none, .v fun s => some (s.get 8)⟩,
    ⟨some 19, none, .v fun s => some (s.get 1)⟩,
    ⟨some 20, none, .v fun s => lenSl (s.get 19)⟩,
    ⟨some 21, none, .v fun s => binA prog .lss 3 (s.get 18) (s.get 20)⟩] K s := (den_reg hf _ K s).trans (by kernel_rfl)
theorem i1_eq (K : List Item) (s : St) : den prog ann 33 (.code i1 :: K) s = ifV prog ann 33 21 i1t i1e K s (s.get 21) := den_if hf (by kernel_rfl) K s
theorem i1t_eq (K : List Item) (s : St) : den prog ann 33 (.code i1t :: K) s = den prog ann 33 (K) s := den_flat hf (l := []) (by kernel_rfl) K s
theorem i1e_eq (K : List Item) (s : St) : den prog ann 33 (.code i1e :: K) s = den prog ann 33 (.code (.exit 2) :: K) s := den_flat hf (l := [(.exit 2)]) (by kernel_rfl) K s
theorem k3_eq (K : List Item) (s : St) : den prog ann 33 (.code k3 :: K) s = den prog ann 33 (.code r8 :: .code i2 :: .inBlock 3 :: K) s := den_blk hf (b := blkOf k3) (l := [r8, i2]) (by kernel_rfl) (by kernel_rfl) K s
theorem r8_eq (K : List Item) (s : St) : den prog ann 33 (.code r8 :: K) s = mreg prog ann 33 none [] none [] [
    ⟨some 24, none, .v fun s => some (s.get 7)⟩,
    ⟨some 25, none, .v fun s => some (s.get 8)⟩,
    ⟨some 26, none, .v fun s => binA prog .neq 3 (s.get 24) (s.get 25)⟩] K s := (den_reg hf _ K s).trans (by kernel_rfl)
theorem i2_eq (K : List Item) (s : St) : den prog ann 33 (.code i2 :: K) s = ifV prog ann 33 26 i2t i2e K s (s.get 26) := den_if hf (by kernel_rfl) K s
theorem i2t_eq (K : List Item) (s : St) : den prog ann 33 (.code i2t :: K) s = den prog ann 33 (.code r9 :: K) s := den_flat hf (l := [r9]) (by kernel_rfl) K s
theorem r9_draw : drawOk (fun g => (ann g).pure) (modeOf (ann 33) (idOf r9)) (frzOf (ann 33) (idOf r9)) (opsOf r9) = true := drawOk_of (an := [0, 0, 0, 6, 14, 0, 0, 96, 224, 510, 0, 2046, 0, 8190, 16383, 32767, 65535, 131071, 262143]) (by kernel_rfl) (by kernel_rfl)
theorem r9_eq (K : List Item) (s : St) : den prog ann 33 (.code r9 :: K) s = mreg prog ann 33 none [] (some 19) [] [
    ⟨some 27, none, .v fun s => some (s.get 6)⟩,
    ⟨some 28, none, .v fun s => some (s.get 1)⟩,
    ⟨some 29, none, .v fun s => some (s.get 7)⟩,
    ⟨some 30, none, .v fun s => idxSl 1 (s.get 28) (s.get 29)⟩,
    ⟨some 31, none, .v fun s => loadF false 1 (s.get 30)⟩,
    ⟨some 32, none, .v fun s => some (s.get 1)⟩,
    ⟨some 33, none, .v fun s => some (s.get 8)⟩,
    ⟨some 34, none, .v fun s => idxSl 1 (s.get 32) (s.get 33)⟩,
    ⟨some 35, none, .v fun s => loadF false 1 (s.get 34)⟩,
    ⟨some 36, none, .v fun s => binA prog .sub 3 (s.get 31) (s.get 35)⟩,
    ⟨some 37, none, .v fun s => some (s.get 0)⟩,
    ⟨some 38, none, .v fun s => binA prog .add 3 (s.get 36) (s.get 37)⟩,
    ⟨some 39, none, .v fun s => some (s.get 0)⟩,
    ⟨some 40, none, .v fun s => binA prog .rem 3 (s.get 38) (s.get 39)⟩,
    ⟨some 41, none, .v fun s => idxSl 1 (s.get 27) (s.get 40)⟩,
    ⟨some 42, none, .v fun s => loadA false 1 s.m (s.get 41)⟩,
    ⟨some 43, none, .v fun s => binA prog .add 3 (s.get 42) (.int .i64 1)⟩,
    ⟨some 44, none, .v fun s => idxSl 1 (s.get 27) (s.get 40)⟩,
    ⟨none, none, .w false (some 18) fun s => stA false 1 s.m (s.get 44) (s.get 43)⟩] K s := (den_regD hf r9_draw K s).trans (by kernel_rfl)
theorem i2e_eq (K : List Item) (s : St) : den prog ann 33 (.code i2e :: K) s = den prog ann 33 (K) s := den_flat hf (l := []) (by kernel_rfl) K s
theorem r7_eq (K : List Item) (s : St) : den prog ann 33 (.code r7 :: K) s = mreg prog ann 33 (some [0, 1, 6, 7, 8]) [] none [] [
    ⟨some 22, none, .v fun s => some (s.get 8)⟩,
    ⟨some 23, none, .v fun s => binA prog .add 3 (s.get 22) (.int .i64 1)⟩,
    ⟨some 8, none, .v fun s => some (s.get 23)⟩] K s := (den_reg hf _ K s).trans (by kernel_rfl)
theorem r4_eq (K : List Item) (s : St) : den prog ann 33 (.code r4 :: K) s = mreg prog ann 33 (some [0, 1, 6, 7]) [] none [] [
    ⟨some 16, none, .v fun s => some (s.get 7)⟩,
    ⟨some 17, none, .v fun s => binA prog .add 3 (s.get 16) (.int .i64 1)⟩,
    ⟨some 7, none, .v fun s => some (s.get 17)⟩] K s := (den_reg hf _ K s).trans (by kernel_rfl)
theorem r10_eq (K : List Item) (s : St) : den prog ann 33 (.code r10 :: K) s = mreg prog ann 33 (some [0, 6]) [] none [] [
    ⟨some 9, none, .v fun s => some (.int .i64 1)⟩] K s := (den_reg hf _ K s).trans (by kernel_rfl)
theorem k4_eq (K : List Item) (t : List (Nat × AV)) (m : Mem) : den prog ann 33 (.code k4 :: K) ⟨t, 61, m⟩ = L4 (get t 0) (get t 6) (get t 9) m K := den_loop_enter hf (b := l4) (id := 11) (l := [0, 6, 9]) (by kernel_rfl) (by kernel_rfl) (by kernel_rfl) K _
theorem l4_eq (K : List Item) (t : List (Nat × AV)) (m : Mem) : den prog ann 33 (.inLoop l4 :: .inBlock 4 :: K) ⟨t, 61, m⟩ = L4 (get t 0) (get t 6) (get t 9) m K := den_loop_again hf (id := 11) (l := [0, 6, 9]) (by kernel_rfl) (by kernel_rfl) (.inBlock 4 :: K) _
theorem L4_eq (x0 x6 x9 : AV) (m : Mem) (K : List Item) : L4 x0 x6 x9 m K = den prog ann 33 (.code r11 :: .code i3 :: .code k5 :: .code r12 :: .inLoop l4 :: .inBlock 4 :: K) ⟨[(0, x0), (6, x6), (9, x9)], 61, m⟩ := den_flat hf (l := [r11, i3, k5, r12]) (by kernel_rfl) _ _
theorem r11_eq (K : List Item) (s : St) : den prog ann 33 (.code r11 :: K) s = mreg prog ann 33 (some [0, 6, 9]) [] none [] [
    ⟨some 45, none, .v fun s => some (s.get 9)⟩,
    ⟨some 46, none, .v fun s => some (s.get 0)⟩,
    ⟨some 47, none, .v fun s => binA prog .lss 3 (s.get 45) (s.get 46)⟩] K s := (den_reg hf _ K s).trans (by kernel_rfl)
theorem i3_eq (K : List Item) (s : St) : den prog ann 33 (.code i3 :: K) s = ifV prog ann 33 47 i3t i3e K s (s.get 47) := den_if hf (by kernel_rfl) K s
theorem i3t_eq (K : List Item) (s : St) : den prog ann 33 (.code i3t :: K) s = den prog ann 33 (K) s := den_flat hf (l := []) (by kernel_rfl) K s
theorem i3e_eq (K : List Item) (s : St) : den prog ann 33 (.code i3e :: K) s = den prog ann 33 (.code (.exit 4) :: K) s := den_flat hf (l := [(.exit 4)]) (by kernel_rfl) K s
theorem k5_eq (K : List Item) (s : St) : den prog ann 33 (.code k5 :: K) s = den prog ann 33 (.code r13 :: .code i4 :: .inBlock 5 :: K) s := den_blk hf (b := blkOf k5) (l := [r13, i4]) (by kernel_rfl) (by kernel_rfl) K s
theorem r13_draw : drawOk (fun g => (ann g).pure) (modeOf (ann 33) (idOf r13)) (frzOf (ann 33) (idOf r13)) (opsOf r13) = true := drawOk_of (an := [0, 0, 3, 7, 0, 16, 48, 127]) (by kernel_rfl) (by kernel_rfl)
theorem r13_eq (K : List Item) (s : St) : den prog ann 33 (.code r13 :: K) s = mreg prog ann 33 none [] (some 8) [] [
    ⟨some 50, none, .v fun s => some (s.get 6)⟩,
    ⟨some 51, none, .v fun s => some (s.get 9)⟩,
    ⟨some 52, none, .v fun s => idxSl 1 (s.get 50) (s.get 51)⟩,
    ⟨some 53, none, .v fun s => loadA false 1 s.m (s.get 52)⟩,
    ⟨some 54, none, .v fun s => some (s.get 6)⟩,
    ⟨some 55, none, .v fun s => idxSl 1 (s.get 54) (.int .i64 1)⟩,
    ⟨some 56, none, .v fun s => loadA false 1 s.m (s.get 55)⟩,
    ⟨some 57, none, .v fun s => binA prog .neq 3 (s.get 53) (s.get 56)⟩] K s := (den_regD hf r13_draw K s).trans (by kernel_rfl)
theorem i4_eq (K : List Item) (s : St) : den prog ann 33 (.code i4 :: K) s = ifV prog ann 33 57 i4t i4e K s (s.get 57) := den_if hf (by kernel_rfl) K s
theorem i4t_eq (K : List Item) (s : St) : den prog ann 33 (.code i4t :: K) s = den prog ann 33 (.code r14 :: .code .ret :: K) s := den_flat hf (l := [r14, .ret]) (by kernel_rfl) K s
theorem r14_eq (K : List Item) (s : St) : den prog ann 33 (.code r14 :: K) s = mreg prog ann 33 none [] none [] [
    ⟨some 4, none, .v fun s => some (.int .i64 0)⟩,
    ⟨some 5, none, .v fun s => some (.bool false)⟩] K s := (den_reg hf _ K s).trans (by kernel_rfl)
theorem i4e_eq (K : List Item) (s : St) : den prog ann 33 (.code i4e :: K) s = den prog ann 33 (K) s := den_flat hf (l := []) (by kernel_rfl) K s
theorem r12_eq (K : List Item) (s : St) : den prog ann 33 (.code r12 :: K) s = mreg prog ann 33 (some [0, 6, 9]) [] none [] [
    ⟨some 48, none, .v fun s => some (s.get 9)⟩,
    ⟨some 49, none, .v fun s => binA prog .add 3 (s.get 48) (.int .i64 1)⟩,
    ⟨some 9, none, .v fun s => some (s.get 49)⟩] K s := (den_reg hf _ K s).trans (by kernel_rfl)
theorem r15_eq (K : List Item) (s : St) : den prog ann 33 (.code r15 :: K) s = mreg prog ann 33 (some [6]) [] none [] [
    ⟨some 58, none, .v fun s => some (s.get 6)⟩,
    ⟨some 59, none, .v fun s => idxSl 1 (s.get 58) (.int .i64 1)⟩,
    ⟨some 60, none, .v fun s => loadA false 1 s.m (s.get 59)⟩,
    ⟨some 4, none, .v fun s => some (s.get 60)⟩,
    ⟨some 5, none, .v fun s => some (.bool true)⟩] K s := (den_reg hf _ K s).trans (by kernel_rfl)
theorem ret_eq (K : List Item) (s : St) : den prog ann 33 (.code .ret :: K) s = finM true [fun s => some (s.get 4), fun s => some (s.get 5)] s := (den_ret hf K s).trans (by kernel_rfl)
theorem nil_eq (s : St) : den prog ann 33 [] s = finM true [fun s => some (s.get 4), fun s => some (s.get 5)] s := (den_nil hf s).trans (by kernel_rfl)
theorem inBlock_eq (id : Nat) (K : List Item) (s : St) : den prog ann 33 (.inBlock id :: K) s = den prog ann 33 K s := den_inBlock hf id K s
theorem exit_eq (id : Nat) (K : List Item) (s : St) : den prog ann 33 (.code (.exit id) :: K) s = exitV prog ann 33 (exitTo id K) s := den_exitV hf id K s
theorem call_eq (v0 v1 : AV) (m : Mem) (h : closedL [v0, v1] = true) : denC prog ann 33 [v0, v1] m = (den prog ann 33 [.code b] ⟨[(0, v0), (1, v1)], 61, Mem.empty⟩).bind fun r => some (r.1, m) := (denC_pure hf (b := b) (by kernel_rfl) (by kernel_rfl) (by kernel_rfl) h m).trans (by kernel_rfl)
theorem pure_eq : (ann 33).pure = true := by kernel_rfl
attribute [simp] b_eq r0_eq r1_eq r2_eq k0_eq l0_eq r3_eq i0_eq i0t_eq i0e_eq k1_eq r5_eq k2_eq l2_eq r6_eq i1_eq i1t_eq i1e_eq k3_eq r8_eq i2_eq i2t_eq r9_eq i2e_eq r7_eq r4_eq r10_eq k4_eq l4_eq r11_eq i3_eq i3t_eq i3e_eq k5_eq r13_eq i4_eq i4t_eq r14_eq i4e_eq r12_eq r15_eq ret_eq nil_eq inBlock_eq exit_eq pure_eq
end r04_Even

namespace l04_StrapRounds
/-- pommel/pommellaw04.StrapRounds -/
noncomputable def b : Code := (Try.f4.body).getD .skip
theorem hf : prog.funcs[4]? = some Try.f4 := by kernel_rfl
noncomputable def r0 : Code := findReg b 0
noncomputable def r1 : Code := findReg b 1
noncomputable def i0 : Code := findCond b 0
noncomputable def i0t : Code := thenOf i0
noncomputable def i0e : Code := elseOf i0
noncomputable def r2 : Code := findReg b 2
noncomputable def r3 : Code := findReg b 3
noncomputable def i1 : Code := findCond b 1
noncomputable def i1t : Code := thenOf i1
noncomputable def i1e : Code := elseOf i1
noncomputable def r4 : Code := findReg b 4
noncomputable def r5 : Code := findReg b 5
noncomputable def r6 : Code := findReg b 6
noncomputable def r7 : Code := findReg b 7
noncomputable def i2 : Code := findCond b 2
noncomputable def i2t : Code := thenOf i2
noncomputable def i2e : Code := elseOf i2
noncomputable def r8 : Code := findReg b 8
noncomputable def r9 : Code := findReg b 9
noncomputable def i3 : Code := findCond b 3
noncomputable def i3t : Code := thenOf i3
noncomputable def i3e : Code := elseOf i3
noncomputable def r10 : Code := findReg b 10
noncomputable def r11 : Code := findReg b 11
noncomputable def i4 : Code := findCond b 4
noncomputable def i4t : Code := thenOf i4
noncomputable def i4e : Code := elseOf i4
noncomputable def r12 : Code := findReg b 12
noncomputable def r13 : Code := findReg b 13
noncomputable def r14 : Code := findReg b 14
theorem b_eq (K : List Item) (s : St) : den prog ann 4 (.code b :: K) s = den prog ann 4 (.code r0 :: .code r1 :: .code i0 :: .code r3 :: .code i1 :: .code r5 :: .code r6 :: .code r7 :: .code i2 :: .code r9 :: .code i3 :: .code r14 :: .code .ret :: K) s := den_flat hf (l := [r0, r1, i0, r3, i1, r5, r6, r7, i2, r9, i3, r14, .ret]) (by kernel_rfl) K s
theorem r0_eq (K : List Item) (s : St) : den prog ann 4 (.code r0 :: K) s = mreg prog ann 4 none [] none [] [
    ⟨some 6, none, .v fun s => some (.bool false)⟩] K s := (den_reg hf _ K s).trans (by kernel_rfl)
theorem r1_eq (K : List Item) (s : St) : den prog ann 4 (.code r1 :: K) s = mreg prog ann 4 none [] none [] [
    ⟨some 11, none, .v fun s => some (s.get 0)⟩,
    ⟨some 12, none, .v fun s => binA prog .gtr 3 (s.get 11) (.int .i64 16)⟩,
    ⟨some 13, none, .v fun s => some (s.get 12)⟩,
    ⟨some 14, some (13, true), .v fun s => some (s.get 0)⟩,
    ⟨some 15, some (13, true), .v fun s => binA prog .leq 3 (s.get 14) (.int .i64 31)⟩,
    ⟨some 16, none, .v fun s => pickA (s.get 13) (s.get 15) (.bool false)⟩] K s := (den_reg hf _ K s).trans (by kernel_rfl)
theorem i0_eq (K : List Item) (s : St) : den prog ann 4 (.code i0 :: K) s = ifV prog ann 4 16 i0t i0e K s (s.get 16) := den_if hf (by kernel_rfl) K s
theorem i0t_eq (K : List Item) (s : St) : den prog ann 4 (.code i0t :: K) s = den prog ann 4 (.code r2 :: K) s := den_flat hf (l := [r2]) (by kernel_rfl) K s
theorem r2_eq (K : List Item) (s : St) : den prog ann 4 (.code r2 :: K) s = mreg prog ann 4 none [] none [] [
    ⟨some 0, none, .v fun s => some (.int .i64 16)⟩] K s := (den_reg hf _ K s).trans (by kernel_rfl)
theorem i0e_eq (K : List Item) (s : St) : den prog ann 4 (.code i0e :: K) s = den prog ann 4 (K) s := den_flat hf (l := []) (by kernel_rfl) K s
theorem r3_eq (K : List Item) (s : St) : den prog ann 4 (.code r3 :: K) s = mreg prog ann 4 (some [0, 1, 2]) [] none [] [
    ⟨some 17, none, .v fun s => some (s.get 1)⟩,
    ⟨some 18, none, .v fun s => binA prog .gtr 3 (s.get 17) (.int .i64 4)⟩,
    ⟨some 19, none, .v fun s => some (s.get 18)⟩,
    ⟨some 20, some (19, true), .v fun s => some (s.get 1)⟩,
    ⟨some 21, some (19, true), .v fun s => binA prog .leq 3 (s.get 20) (.int .i64 6)⟩,
    ⟨some 22, none, .v fun s => pickA (s.get 19) (s.get 21) (.bool false)⟩] K s := (den_reg hf _ K s).trans (by kernel_rfl)
theorem i1_eq (K : List Item) (s : St) : den prog ann 4 (.code i1 :: K) s = ifV prog ann 4 22 i1t i1e K s (s.get 22) := den_if hf (by kernel_rfl) K s
theorem i1t_eq (K : List Item) (s : St) : den prog ann 4 (.code i1t :: K) s = den prog ann 4 (.code r4 :: K) s := den_flat hf (l := [r4]) (by kernel_rfl) K s
theorem r4_eq (K : List Item) (s : St) : den prog ann 4 (.code r4 :: K) s = mreg prog ann 4 none [] none [] [
    ⟨some 1, none, .v fun s => some (.int .i64 4)⟩] K s := (den_reg hf _ K s).trans (by kernel_rfl)
theorem i1e_eq (K : List Item) (s : St) : den prog ann 4 (.code i1e :: K) s = den prog ann 4 (K) s := den_flat hf (l := []) (by kernel_rfl) K s
theorem r5_eq (K : List Item) (s : St) : den prog ann 4 (.code r5 :: K) s = mreg prog ann 4 (some [0, 1, 2]) [] none [] [
    ⟨some 24, none, .v fun s => some (s.get 0)⟩,
    ⟨some 25, none, .v fun s => some (s.get 1)⟩,
    ⟨some 26, none, .v fun s => some (s.get 2)⟩,
    ⟨some 27, none, .c 0 (fun s => (.fn 17 [] [])) fun s => [(s.get 24), (s.get 25), (s.get 26)]⟩,
    ⟨some 23, none, .v fun s => some (s.get 27)⟩,
    ⟨some 28, none, .v fun s => extA (s.get 23) 0⟩,
    ⟨some 29, none, .v fun s => extA (s.get 23) 1⟩,
    ⟨some 7, none, .v fun s => some (s.get 28)⟩,
    ⟨some 8, none, .v fun s => some (s.get 29)⟩] K s := (den_reg hf _ K s).trans (by kernel_rfl)
theorem r6_eq (K : List Item) (s : St) : den prog ann 4 (.code r6 :: K) s = mreg prog ann 4 none [] none [] [
    ⟨some 9, none, .v fun s => some (.int .i64 0)⟩] K s := (den_reg hf _ K s).trans (by kernel_rfl)
theorem r7_eq (K : List Item) (s : St) : den prog ann 4 (.code r7 :: K) s = mreg prog ann 4 none [] none [] [
    ⟨some 30, none, .v fun s => some (s.get 0)⟩,
    ⟨some 31, none, .v fun s => binA prog .lss 3 (s.get 30) (.int .i64 2)⟩,
    ⟨some 32, none, .v fun s => some (s.get 31)⟩,
    ⟨some 33, some (32, false), .v fun s => some (s.get 0)⟩,
    ⟨some 34, some (32, false), .v fun s => binA prog .gtr 3 (s.get 33) (.int .i64 31)⟩,
    ⟨some 35, none, .v fun s => pickA (s.get 32) (.bool true) (s.get 34)⟩,
    ⟨some 36, none, .v fun s => some (s.get 35)⟩,
    ⟨some 37, some (36, false), .v fun s => some (s.get 1)⟩,
    ⟨some 38, some (36, false), .v fun s => binA prog .lss 3 (s.get 37) (.int .i64 2)⟩,
    ⟨some 39, none, .v fun s => pickA (s.get 36) (.bool true) (s.get 38)⟩,
    ⟨some 40, none, .v fun s => some (s.get 39)⟩,
    ⟨some 41, some (40, false), .v fun s => some (s.get 1)⟩,
    ⟨some 42, some (40, false), .v fun s => binA prog .gtr 3 (s.get 41) (.int .i64 6)⟩,
    ⟨some 43, none, .v fun s => pickA (s.get 40) (.bool true) (s.get 42)⟩,
    ⟨some 44, none, .v fun s => some (s.get 43)⟩,
    ⟨some 45, some (44, false), .v fun s => some (s.get 1)⟩,
    ⟨some 46, some (44, false), .v fun s => some (s.get 0)⟩,
    ⟨some 47, some (44, false), .v fun s => binA prog .sub 3 (s.get 46) (.int .i64 1)⟩,
    ⟨some 48, some (44, false), .v fun s => binA prog .gtr 3 (s.get 45) (s.get 47)⟩,
    ⟨some 49, none, .v fun s => pickA (s.get 44) (.bool true) (s.get 48)⟩,
    ⟨some 50, none, .v fun s => some (s.get 49)⟩,
    ⟨some 51, some (50, false), .v fun s => some (s.get 2)⟩,
    ⟨some 52, some (50, false), .v fun s => binA prog .lss 3 (s.get 51) (.int .i64 1)⟩,
    ⟨some 53, none, .v fun s => pickA (s.get 50) (.bool true) (s.get 52)⟩,
    ⟨some 54, none, .v fun s => some (s.get 53)⟩,
    ⟨some 55, some (54, false), .v fun s => some (s.get 2)⟩,
    ⟨some 56, some (54, false), .v fun s => some (s.get 0)⟩,
    ⟨some 57, some (54, false), .v fun s => binA prog .gtr 3 (s.get 55) (s.get 56)⟩,
    ⟨some 58, none, .v fun s => pickA (s.get 54) (.bool true) (s.get 57)⟩] K s := (den_reg hf _ K s).trans (by kernel_rfl)
theorem i2_eq (K : List Item) (s : St) : den prog ann 4 (.code i2 :: K) s = ifV prog ann 4 58 i2t i2e K s (s.get 58) := den_if hf (by kernel_rfl) K s
theorem i2t_eq (K : List Item) (s : St) : den prog ann 4 (.code i2t :: K) s = den prog ann 4 (.code r8 :: K) s := den_flat hf (l := [r8]) (by kernel_rfl) K s
theorem r8_eq (K : List Item) (s : St) : den prog ann 4 (.code r8 :: K) s = mreg prog ann 4 none [] none [] [
    ⟨some 9, none, .v fun s => some (.int .i64 1)⟩] K s := (den_reg hf _ K s).trans (by kernel_rfl)
theorem i2e_eq (K : List Item) (s : St) : den prog ann 4 (.code i2e :: K) s = den prog ann 4 (K) s := den_flat hf (l := []) (by kernel_rfl) K s
theorem r9_eq (K : List Item) (s : St) : den prog ann 4 (.code r9 :: K) s = mreg prog ann 4 (some [0, 1, 2, 7, 8, 9]) [] none [] [
    ⟨some 59, none, .v fun s => some (s.get 9)⟩,
    ⟨some 60, none, .v fun s => binA prog .eql 23 (s.get 59) (.int .i64 0)⟩] K s := (den_reg hf _ K s).trans (by kernel_rfl)
theorem i3_eq (K : List Item) (s : St) : den prog ann 4 (.code i3 :: K) s = ifV prog ann 4 60 i3t i3e K s (s.get 60) := den_if hf (by kernel_rfl) K s
theorem i3t_eq (K : List Item) (s : St) : den prog ann 4 (.code i3t :: K) s = den prog ann 4 (.code r10 :: .code r11 :: .code i4 :: .code r13 :: K) s := den_flat hf (l := [r10, r11, i4, r13]) (by kernel_rfl) K s
theorem r10_eq (K : List Item) (s : St) : den prog ann 4 (.code r10 :: K) s = mreg prog ann 4 none [] none [] [
    ⟨some 61, none, .v fun s => some (s.get 0)⟩,
    ⟨some 62, none, .v fun s => some (s.get 1)⟩,
    ⟨some 63, none, .v fun s => some (s.get 2)⟩,
    ⟨some 64, none, .c 0 (fun s => (.fn 18 [] [])) fun s => [(s.get 61), (s.get 62), (s.get 63), (.nils)]⟩,
    ⟨some 10, none, .v fun s => some (s.get 64)⟩] K s := (den_reg hf _ K s).trans (by kernel_rfl)
theorem r11_eq (K : List Item) (s : St) : den prog ann 4 (.code r11 :: K) s = mreg prog ann 4 none [] none [] [
    ⟨some 65, none, .v fun s => some (s.get 10)⟩,
    ⟨some 66, none, .v fun s => binA prog .neq 22 (s.get 65) (.nils)⟩] K s := (den_reg hf _ K s).trans (by kernel_rfl)
theorem i4_eq (K : List Item) (s : St) : den prog ann 4 (.code i4 :: K) s = ifV prog ann 4 66 i4t i4e K s (s.get 66) := den_if hf (by kernel_rfl) K s
theorem i4t_eq (K : List Item) (s : St) : den prog ann 4 (.code i4t :: K) s = den prog ann 4 (.code r12 :: .code .ret :: K) s := den_flat hf (l := [r12, .ret]) (by kernel_rfl) K s
theorem r12_eq (K : List Item) (s : St) : den prog ann 4 (.code r12 :: K) s = mreg prog ann 4 none [] none [] [
    ⟨some 67, none, .v fun s => some (s.get 7)⟩,
    ⟨some 68, none, .v fun s => some (s.get 10)⟩,
    ⟨some 69, none, .c 0 (fun s => (.fn 15 [] [])) fun s => [(s.get 67), (s.get 68)]⟩,
    ⟨some 70, none, .v fun s => some (s.get 69)⟩,
    ⟨some 71, some (70, true), .v fun s => some (s.get 8)⟩,
    ⟨some 72, some (70, true), .v fun s => binA prog .eql 23 (s.get 71) (.int .i64 0)⟩,
    ⟨some 73, none, .v fun s => pickA (s.get 70) (s.get 72) (.bool false)⟩,
    ⟨some 74, none, .v fun s => some (s.get 73)⟩,
    ⟨some 75, some (74, true), .c 0 (fun s => (.fn 14 [] [])) fun s => []⟩,
    ⟨some 76, none, .v fun s => pickA (s.get 74) (s.get 75) (.bool false)⟩,
    ⟨some 6, none, .v fun s => some (s.get 76)⟩] K s := (den_reg hf _ K s).trans (by kernel_rfl)
theorem i4e_eq (K : List Item) (s : St) : den prog ann 4 (.code i4e :: K) s = den prog ann 4 (K) s := den_flat hf (l := []) (by kernel_rfl) K s
theorem r13_eq (K : List Item) (s : St) : den prog ann 4 (.code r13 :: K) s = mreg prog ann 4 none [] none [] [
    ⟨some 9, none, .v fun s => some (.int .i64 5)⟩] K s := (den_reg hf _ K s).trans (by kernel_rfl)
theorem i3e_eq (K : List Item) (s : St) : den prog ann 4 (.code i3e :: K) s = den prog ann 4 (K) s := den_flat hf (l := []) (by kernel_rfl) K s
theorem r14_eq (K : List Item) (s : St) : den prog ann 4 (.code r14 :: K) s = mreg prog ann 4 (some [7, 8, 9]) [] none [] [
    ⟨some 77, none, .v fun s => some (s.get 7)⟩,
    ⟨some 78, none, .v fun s => lenSl (s.get 77)⟩,
    ⟨some 79, none, .v fun s => binA prog .eql 3 (s.get 78) (.int .i64 0)⟩,
    ⟨some 80, none, .v fun s => some (s.get 79)⟩,
    ⟨some 81, some (80, true), .v fun s => some (s.get 8)⟩,
    ⟨some 82, some (80, true), .v fun s => some (s.get 9)⟩,
    ⟨some 83, some (80, true), .v fun s => binA prog .eql 23 (s.get 81) (s.get 82)⟩,
    ⟨some 84, none, .v fun s => pickA (s.get 80) (s.get 83) (.bool false)⟩,
    ⟨some 85, none, .v fun s => some (s.get 84)⟩,
    ⟨some 86, some (85, true), .c 0 (fun s => (.fn 14 [] [])) fun s => []⟩,
    ⟨some 87, none, .v fun s => pickA (s.get 85) (s.get 86) (.bool false)⟩,
    ⟨some 6, none, .v fun s => some (s.get 87)⟩] K s := (den_reg hf _ K s).trans (by kernel_rfl)
theorem ret_eq (K : List Item) (s : St) : den prog ann 4 (.code .ret :: K) s = finM true [fun s => some (s.get 6)] s := (den_ret hf K s).trans (by kernel_rfl)
theorem nil_eq (s : St) : den prog ann 4 [] s = finM true [fun s => some (s.get 6)] s := (den_nil hf s).trans (by kernel_rfl)
theorem inBlock_eq (id : Nat) (K : List Item) (s : St) : den prog ann 4 (.inBlock id :: K) s = den prog ann 4 K s := den_inBlock hf id K s
theorem exit_eq (id : Nat) (K : List Item) (s : St) : den prog ann 4 (.code (.exit id) :: K) s = exitV prog ann 4 (exitTo id K) s := den_exitV hf id K s
theorem call_eq (v0 v1 v2 : AV) (m : Mem) (h : closedL [v0, v1, v2] = true) : denC prog ann 4 [v0, v1, v2] m = (den prog ann 4 [.code b] ⟨[(0, v0), (1, v1), (2, v2)], 88, Mem.empty⟩).bind fun r => some (r.1, m) := (denC_pure hf (b := b) (by kernel_rfl) (by kernel_rfl) (by kernel_rfl) h m).trans (by kernel_rfl)
theorem pure_eq : (ann 4).pure = true := by kernel_rfl
attribute [simp] b_eq r0_eq r1_eq i0_eq i0t_eq r2_eq i0e_eq r3_eq i1_eq i1t_eq r4_eq i1e_eq r5_eq r6_eq r7_eq i2_eq i2t_eq r8_eq i2e_eq r9_eq i3_eq i3t_eq r10_eq r11_eq i4_eq i4t_eq r12_eq i4e_eq r13_eq i3e_eq r14_eq ret_eq nil_eq inBlock_eq exit_eq pure_eq
end l04_StrapRounds



namespace strap_differences
/-- pommel/strap.differences -/
noncomputable def b : Code := (Try.f56.body).getD .skip
theorem hf : prog.funcs[56]? = some Try.f56 := by kernel_rfl
noncomputable def r0 : Code := findReg b 0
noncomputable def r1 : Code := findReg b 1
noncomputable def r2 : Code := findReg b 2
noncomputable def k0 : Code := findBlk b 0
noncomputable def l0 : Code := loopOf k0
noncomputable def L0 (x0 x1 x5 x12 x13 x14 : AV) (m : Mem) (K : List Item) : Option Res := den prog ann 56 (.code l0 :: .inLoop l0 :: .inBlock 0 :: K) ⟨[(0, x0), (1, x1), (5, x5), (12, x12), (13, x13), (14, x14)], 42, m⟩
noncomputable def r3 : Code := findReg b 3
noncomputable def i0 : Code := findCond b 0
noncomputable def i0t : Code := thenOf i0
noncomputable def i0e : Code := elseOf i0
noncomputable def k1 : Code := findBlk b 1
noncomputable def r4 : Code := findReg b 4
noncomputable def r5 : Code := findReg b 5
noncomputable def k2 : Code := findBlk b 2
noncomputable def l2 : Code := loopOf k2
noncomputable def L2 (x0 x1 x5 x7 x12 x13 x14 x18 x19 x20 : AV) (m : Mem) (K : List Item) : Option Res := den prog ann 56 (.code l2 :: .inLoop l2 :: .inBlock 2 :: K) ⟨[(0, x0), (1, x1), (5, x5), (7, x7), (12, x12), (13, x13), (14, x14), (18, x18), (19, x19), (20, x20)], 42, m⟩
noncomputable def r6 : Code := findReg b 6
noncomputable def i1 : Code := findCond b 1
noncomputable def i1t : Code := thenOf i1
noncomputable def i1e : Code := elseOf i1
noncomputable def k3 : Code := findBlk b 3
noncomputable def r7 : Code := findReg b 7
noncomputable def r8 : Code := findReg b 8
noncomputable def i2 : Code := findCond b 2
noncomputable def i2t : Code := thenOf i2
noncomputable def i2e : Code := elseOf i2
noncomputable def r9 : Code := findReg b 9
noncomputable def r10 : Code := findReg b 10
noncomputable def r11 : Code := findReg b 11
noncomputable def r12 : Code := findReg b 12
theorem b_eq (K : List Item) (s : St) : den prog ann 56 (.code b :: K) s = den prog ann 56 (.code r0 :: .code r1 :: .code r2 :: .code k0 :: .code r12 :: .code .ret :: K) s := den_flat hf (l := [r0, r1, r2, k0, r12, .ret]) (by kernel_rfl) K s
theorem r0_eq (K : List Item) (s : St) : den prog ann 56 (.code r0 :: K) s = mreg prog ann 56 none [] none [] [
    ⟨some 4, none, .v fun s => some (.nils)⟩] K s := (den_reg hf _ K s).trans (by kernel_rfl)
theorem r1_eq (K : List Item) (s : St) : den prog ann 56 (.code r1 :: K) s = mreg prog ann 56 none [] none [] [
    ⟨some 10, none, .v fun s => some (s.get 0)⟩,
    ⟨some 11, none, .w false none fun s => makeA 1 8 (.int .i64 0) s.m (s.get 10) (s.get 10)⟩,
    ⟨some 5, none, .v fun s => some (s.get 11)⟩] K s := (den_reg hf _ K s).trans (by kernel_rfl)
theorem r2_eq (K : List Item) (s : St) : den prog ann 56 (.code r2 :: K) s = mreg prog ann 56 none [] none [] [
    ⟨some 12, none, .v fun s => some (s.get 1)⟩,
    ⟨some 13, none, .v fun s => lenSl (s.get 12)⟩,
    ⟨some 14, none, .v fun s => some (.int .i64 0)⟩] K s := (den_reg hf _ K s).trans (by kernel_rfl)
theorem k0_eq (K : List Item) (t : List (Nat × AV)) (m : Mem) : den prog ann 56 (.code k0 :: K) ⟨t, 42, m⟩ = L0 (get t 0) (get t 1) (get t 5) (get t 12) (get t 13) (get t 14) m K := den_loop_enter hf (b := l0) (id := 3) (l := [0, 1, 5, 12, 13, 14]) (by kernel_rfl) (by kernel_rfl) (by kernel_rfl) K _
theorem l0_eq (K : List Item) (t : List (Nat × AV)) (m : Mem) : den prog ann 56 (.inLoop l0 :: .inBlock 0 :: K) ⟨t, 42, m⟩ = L0 (get t 0) (get t 1) (get t 5) (get t 12) (get t 13) (get t 14) m K := den_loop_again hf (id := 3) (l := [0, 1, 5, 12, 13, 14]) (by kernel_rfl) (by kernel_rfl) (.inBlock 0 :: K) _
theorem L0_eq (x0 x1 x5 x12 x13 x14 : AV) (m : Mem) (K : List Item) : L0 x0 x1 x5 x12 x13 x14 m K = den prog ann 56 (.code r3 :: .code i0 :: .code k1 :: .code r11 :: .inLoop l0 :: .inBlock 0 :: K) ⟨[(0, x0), (1, x1), (5, x5), (12, x12), (13, x13), (14, x14)], 42, m⟩ := den_flat hf (l := [r3, i0, k1, r11]) (by kernel_rfl) _ _
theorem r3_eq (K : List Item) (s : St) : den prog ann 56 (.code r3 :: K) s = mreg prog ann 56 (some [0, 1, 5, 12, 13, 14]) [] none [] [
    ⟨some 15, none, .v fun s => binA prog .lss 3 (s.get 14) (s.get 13)⟩] K s := (den_reg hf _ K s).trans (by kernel_rfl)
theorem i0_eq (K : List Item) (s : St) : den prog ann 56 (.code i0 :: K) s = ifV prog ann 56 15 i0t i0e K s (s.get 15) := den_if hf (by kernel_rfl) K s
theorem i0t_eq (K : List Item) (s : St) : den prog ann 56 (.code i0t :: K) s = den prog ann 56 (K) s := den_flat hf (l := []) (by kernel_rfl) K s
theorem i0e_eq (K : List Item) (s : St) : den prog ann 56 (.code i0e :: K) s = den prog ann 56 (.code (.exit 0) :: K) s := den_flat hf (l := [(.exit 0)]) (by kernel_rfl) K s
theorem k1_eq (K : List Item) (s : St) : den prog ann 56 (.code k1 :: K) s = den prog ann 56 (.code r4 :: .code r5 :: .code k2 :: .inBlock 1 :: K) s := den_blk hf (b := blkOf k1) (l := [r4, r5, k2]) (by kernel_rfl) (by kernel_rfl) K s
theorem r4_eq (K : List Item) (s : St) : den prog ann 56 (.code r4 :: K) s = mreg prog ann 56 none [] none [] [
    ⟨some 16, none, .v fun s => idxSl 1 (s.get 12) (s.get 14)⟩,
    ⟨some 17, none, .v fun s => loadF false 1 (s.get 16)⟩,
    ⟨some 7, none, .v fun s => some (s.get 17)⟩] K s := (den_reg hf _ K s).trans (by kernel_rfl)
theorem r5_eq (K : List Item) (s : St) : den prog ann 56 (.code r5 :: K) s = mreg prog ann 56 none [] none [] [
    ⟨some 18, none, .v fun s => some (s.get 1)⟩,
    ⟨some 19, none, .v fun s => lenSl (s.get 18)⟩,
    ⟨some 20, none, .v fun s => some (.int .i64 0)⟩] K s := (den_reg hf _ K s).trans (by kernel_rfl)
theorem k2_eq (K : List Item) (t : List (Nat × AV)) (m : Mem) : den prog ann 56 (.code k2 :: K) ⟨t, 42, m⟩ = L2 (get t 0) (get t 1) (get t 5) (get t 7) (get t 12) (get t 13) (get t 14) (get t 18) (get t 19) (get t 20) m K := den_loop_enter hf (b := l2) (id := 6) (l := [0, 1, 5, 7, 12, 13, 14, 18, 19, 20]) (by kernel_rfl) (by kernel_rfl) (by kernel_rfl) K _
theorem l2_eq (K : List Item) (t : List (Nat × AV)) (m : Mem) : den prog ann 56 (.inLoop l2 :: .inBlock 2 :: K) ⟨t, 42, m⟩ = L2 (get t 0) (get t 1) (get t 5) (get t 7) (get t 12) (get t 13) (get t 14) (get t 18) (get t 19) (get t 20) m K := den_loop_again hf (id := 6) (l := [0, 1, 5, 7, 12, 13, 14, 18, 19, 20]) (by kernel_rfl) (by kernel_rfl) (.inBlock 2 :: K) _
theorem L2_eq (x0 x1 x5 x7 x12 x13 x14 x18 x19 x20 : AV) (m : Mem) (K : List Item) : L2 x0 x1 x5 x7 x12 x13 x14 x18 x19 x20 m K = den prog ann 56 (.code r6 :: .code i1 :: .code k3 :: .code r10 :: .inLoop l2 :: .inBlock 2 :: K) ⟨[(0, x0), (1, x1), (5, x5), (7, x7), (12, x12), (13, x13), (14, x14), (18, x18), (19, x19), (20, x20)], 42, m⟩ := den_flat hf (l := [r6, i1, k3, r10]) (by kernel_rfl) _ _
theorem r6_eq (K : List Item) (s : St) : den prog ann 56 (.code r6 :: K) s = mreg prog ann 56 (some [0, 1, 5, 7, 12, 13, 14, 18, 19, 20]) [] none [] [
    ⟨some 21, none, .v fun s => binA prog .lss 3 (s.get 20) (s.get 19)⟩] K s := (den_reg hf _ K s).trans (by kernel_rfl)
theorem i1_eq (K : List Item) (s : St) : den prog ann 56 (.code i1 :: K) s = ifV prog ann 56 21 i1t i1e K s (s.get 21) := den_if hf (by kernel_rfl) K s
theorem i1t_eq (K : List Item) (s : St) : den prog ann 56 (.code i1t :: K) s = den prog ann 56 (K) s := den_flat hf (l := []) (by kernel_rfl) K s
theorem i1e_eq (K : List Item) (s : St) : den prog ann 56 (.code i1e :: K) s = den prog ann 56 (.code (.exit 2) :: K) s := den_flat hf (l := [(.exit 2)]) (by kernel_rfl) K s
theorem k3_eq (K : List Item) (s : St) : den prog ann 56 (.code k3 :: K) s = den prog ann 56 (.code r7 :: .code r8 :: .code i2 :: .inBlock 3 :: K) s := den_blk hf (b := blkOf k3) (l := [r7, r8, i2]) (by kernel_rfl) (by kernel_rfl) K s
theorem r7_eq (K : List Item) (s : St) : den prog ann 56 (.code r7 :: K) s = mreg prog ann 56 none [] none [] [
    ⟨some 22, none, .v fun s => idxSl 1 (s.get 18) (s.get 20)⟩,
    ⟨some 23, none, .v fun s => loadF false 1 (s.get 22)⟩,
    ⟨some 9, none, .v fun s => some (s.get 23)⟩] K s := (den_reg hf _ K s).trans (by kernel_rfl)
theorem r8_eq (K : List Item) (s : St) : den prog ann 56 (.code r8 :: K) s = mreg prog ann 56 none [] none [] [
    ⟨some 24, none, .v fun s => some (s.get 7)⟩,
    ⟨some 25, none, .v fun s => some (s.get 9)⟩,
    ⟨some 26, none, .v fun s => binA prog .neq 3 (s.get 24) (s.get 25)⟩] K s := (den_reg hf _ K s).trans (by kernel_rfl)
theorem i2_eq (K : List Item) (s : St) : den prog ann 56 (.code i2 :: K) s = ifV prog ann 56 26 i2t i2e K s (s.get 26) := den_if hf (by kernel_rfl) K s
theorem i2t_eq (K : List Item) (s : St) : den prog ann 56 (.code i2t :: K) s = den prog ann 56 (.code r9 :: K) s := den_flat hf (l := [r9]) (by kernel_rfl) K s
theorem r9_eq (K : List Item) (s : St) : den prog ann 56 (.code r9 :: K) s = mreg prog ann 56 none [] none [] [
    ⟨some 27, none, .v fun s => some (s.get 5)⟩,
    ⟨some 28, none, .v fun s => some (s.get 7)⟩,
    ⟨some 29, none, .v fun s => some (s.get 9)⟩,
    ⟨some 30, none, .v fun s => binA prog .sub 3 (s.get 28) (s.get 29)⟩,
    ⟨some 31, none, .v fun s => some (s.get 0)⟩,
    ⟨some 32, none, .v fun s => binA prog .add 3 (s.get 30) (s.get 31)⟩,
    ⟨some 33, none, .v fun s => some (s.get 0)⟩,
    ⟨some 34, none, .v fun s => binA prog .rem 3 (s.get 32) (s.get 33)⟩,
    ⟨some 35, none, .v fun s => idxSl 1 (s.get 27) (s.get 34)⟩,
    ⟨some 36, none, .v fun s => loadA false 1 s.m (s.get 35)⟩,
    ⟨some 37, none, .v fun s => binA prog .add 3 (s.get 36) (.int .i64 1)⟩,
    ⟨some 38, none, .v fun s => idxSl 1 (s.get 27) (s.get 34)⟩,
    ⟨none, none, .w false none fun s => stA false 1 s.m (s.get 38) (s.get 37)⟩] K s := (den_reg hf _ K s).trans (by kernel_rfl)
theorem i2e_eq (K : List Item) (s : St) : den prog ann 56 (.code i2e :: K) s = den prog ann 56 (K) s := den_flat hf (l := []) (by kernel_rfl) K s
theorem r10_eq (K : List Item) (s : St) : den prog ann 56 (.code r10 :: K) s = mreg prog ann 56 (some [0, 1, 5, 7, 12, 13, 14, 18, 19, 20]) [] none [] [
    ⟨some 39, none, .v fun s => binA prog .add 3 (s.get 20) (.int .i64 1)⟩,
    ⟨some 20, none, .v fun s => some (s.get 39)⟩] K s := (den_reg hf _ K s).trans (by kernel_rfl)
theorem r11_eq (K : List Item) (s : St) : den prog ann 56 (.code r11 :: K) s = mreg prog ann 56 (some [0, 1, 5, 12, 13, 14]) [] none [] [
    ⟨some 40, none, .v fun s => binA prog .add 3 (s.get 14) (.int .i64 1)⟩,
    ⟨some 14, none, .v fun s => some (s.get 40)⟩] K s := (den_reg hf _ K s).trans (by kernel_rfl)
theorem r12_eq (K : List Item) (s : St) : den prog ann 56 (.code r12 :: K) s = mreg prog ann 56 (some [5]) [] none [] [
    ⟨some 41, none, .v fun s => some (s.get 5)⟩,
    ⟨some 4, none, .v fun s => some (s.get 41)⟩] K s := (den_reg hf _ K s).trans (by kernel_rfl)
theorem ret_eq (K : List Item) (s : St) : den prog ann 56 (.code .ret :: K) s = finM true [fun s => some (s.get 4)] s := (den_ret hf K s).trans (by kernel_rfl)
theorem nil_eq (s : St) : den prog ann 56 [] s = finM true [fun s => some (s.get 4)] s := (den_nil hf s).trans (by kernel_rfl)
theorem inBlock_eq (id : Nat) (K : List Item) (s : St) : den prog ann 56 (.inBlock id :: K) s = den prog ann 56 K s := den_inBlock hf id K s
theorem exit_eq (id : Nat) (K : List Item) (s : St) : den prog ann 56 (.code (.exit id) :: K) s = exitV prog ann 56 (exitTo id K) s := den_exitV hf id K s
theorem call_eq (v0 v1 : AV) (m : Mem) (h : closedL [v0, v1] = true) : denC prog ann 56 [v0, v1] m = (den prog ann 56 [.code b] ⟨[(0, v0), (1, v1)], 42, Mem.empty⟩).bind fun r => some (r.1, m) := (denC_pure hf (b := b) (by kernel_rfl) (by kernel_rfl) (by kernel_rfl) h m).trans (by kernel_rfl)
theorem pure_eq : (ann 56).pure = true := by kernel_rfl
attribute [simp] b_eq r0_eq r1_eq r2_eq k0_eq l0_eq r3_eq i0_eq i0t_eq i0e_eq k1_eq r4_eq r5_eq k2_eq l2_eq r6_eq i1_eq i1t_eq i1e_eq k3_eq r7_eq r8_eq i2_eq i2t_eq r9_eq i2e_eq r10_eq r11_eq r12_eq ret_eq nil_eq inBlock_eq exit_eq pure_eq
end strap_differences

end Go.Proofs.Ytpghadmpegncgaa

/-
  BODIES OF FUNCTIONS OF THE PROGRAM AS SMALL OPERATIONS (written by gen.py; checked by the kernel against the program). Conditions: none.
-/
namespace Go.Proofs.Ytpghadmpegncgaa
open Go.AM
open Go.Proofs.Try (prog)
set_option maxRecDepth 100000
set_option linter.all false



end Go.Proofs.Ytpghadmpegncgaa

/-
  STRAPS (12): round straps: the tests, how often each difference comes. Conditions: none.
-/
namespace Go.Proofs.Ytpghadmpegncgaa
open Go.AM
open Go.Proofs.Try (prog)
set_option linter.all false
set_option maxRecDepth 100000
set_option maxHeartbeats 4000000

/-- A round strap: places below v, rising. -/
structure RingOk (v : Int) (l : List Int) : Prop where
  v2 : 2 ≤ v
  v31 : v ≤ 31
  pos : 0 < l.length
  few : l.length ≤ 31
  rng : ∀ i, i < l.length → 0 ≤ nth l i ∧ nth l i < v
  asc : ∀ i, i + 1 < l.length → nth l i < nth l (i + 1)
theorem RingOk.lt {v : Int} {l : List Int} (s : RingOk v l) {i : Nat} : ∀ {j : Nat}, i < j → j < l.length → nth l i < nth l j
  | j + 1, h, hj => by
    rcases Nat.eq_or_lt_of_le (Nat.le_of_lt_succ h) with e | e
    · subst e; exact s.asc i hj
    · exact Int.lt_trans (s.lt e (by omega)) (s.asc j hj)
/-- Why places are no round strap. -/
inductive RingErr (v : Int) (l : List Int) : Int → Prop where
  | long (h : 31 < l.length) : RingErr v l 3
  | arg (h : l.length ≤ 31) (h2 : v < 2 ∨ 31 < v) : RingErr v l 1
  | form (h : l.length ≤ 31) (h2 : 2 ≤ v ∧ v ≤ 31) (h3 : ¬ RingOk v l) : RingErr v l 2
  | ok (h : RingOk v l) : RingErr v l 0
theorem RingErr.uniq {v : Int} {l : List Int} {a b : Int} (h : RingErr v l a) (k : RingErr v l b) : a = b := by
  cases h with
  | long h => cases k with
    | long _ => rfl
    | arg h2 _ => omega
    | form h2 _ _ => omega
    | ok s => have := s.few; omega
  | arg h h2 => cases k with
    | long _ => omega
    | arg _ _ => rfl
    | form _ h3 _ => omega
    | ok s => have := s.v2; have := s.v31; omega
  | form h h2 h3 => cases k with
    | long _ => omega
    | arg _ _ => omega
    | form _ _ _ => rfl
    | ok s => exact absurd s h3
  | ok s => cases k with
    | long _ => have := s.few; omega
    | arg _ _ => have := s.v2; have := s.v31; omega
    | form _ _ h => exact absurd s h
    | ok _ => rfl
def rOk (v : Int) (l : List Int) (j : Nat) : Bool := decide (0 ≤ nth l j ∧ nth l j < v) && (decide (j = 0) || decide (nth l (j - 1) < nth l j))
/-! ### How often each difference comes -/
def dfF (l : List Int) (v : Int) (i : Nat) (k j : Nat) (c : List Int) : List Int := (List.range' j k).foldl (fun c q => if i = q then c else bump c ((nth l i - nth l q + v).tmod v).toNat) c
def dfO (l : List Int) (v : Int) (k i : Nat) (c : List Int) : List Int := (List.range' i k).foldl (fun c i => dfF l v i l.length 0 c) c
theorem dfF_succ (l : List Int) (v : Int) (i k j : Nat) (c : List Int) : dfF l v i (k + 1) j c = dfF l v i k (j + 1) (if i = j then c else bump c ((nth l i - nth l j + v).tmod v).toNat) := by simp [dfF, List.range'_succ]
theorem dfO_succ (l : List Int) (v : Int) (k i : Nat) (c : List Int) : dfO l v (k + 1) i c = dfO l v k (i + 1) (dfF l v i l.length 0 c) := by simp [dfO, List.range'_succ]
theorem dfF_len (l : List Int) (v : Int) (i : Nat) : ∀ (k j : Nat) (c : List Int), (dfF l v i k j c).length = c.length
  | 0, _, _ => rfl
  | k + 1, j, c => by rw [dfF_succ, dfF_len]; split <;> simp [bump_len]
theorem dfO_len (l : List Int) (v : Int) : ∀ (k i : Nat) (c : List Int), (dfO l v k i c).length = c.length
  | 0, _, _ => rfl
  | k + 1, i, c => by rw [dfO_succ, dfO_len, dfF_len]
theorem Small.dfF {l : List Int} {v : Int} {i : Nat} : ∀ {k j : Nat} {c : List Int} {B : Int}, Small c B → 0 ≤ B → Small (Go.Proofs.Ytpghadmpegncgaa.dfF l v i k j c) (B + k)
  | 0, _, _, _, h, _ => by simpa [Go.Proofs.Ytpghadmpegncgaa.dfF] using h
  | k + 1, j, c, B, h, hB => by
    rw [dfF_succ]
    have h1 : Small (if i = j then c else Go.AM.bump c ((nth l i - nth l j + v).tmod v).toNat) (B + 1) := by
      split
      · intro g; have := h g; omega
      · exact h.bump hB _
    have := h1.dfF (l := l) (v := v) (i := i) (k := k) (j := j + 1) (by omega)
    rwa [show B + 1 + (k : Int) = B + ((k + 1 : Nat) : Int) by omega] at this
def diffs (v : Int) (l : List Int) : List Int := dfO l v l.length 0 (List.replicate v.toNat 0)
theorem RingOk.ne {v : Int} {l : List Int} (s : RingOk v l) {i j : Nat} (hi : i < l.length) (hj : j < l.length) : nth l i = nth l j ↔ i = j := by
  constructor
  · intro h
    rcases Nat.lt_trichotomy i j with q | q | q
    · have := s.lt q hj; omega
    · exact q
    · have := s.lt q hi; omega
  · intro h; rw [h]
end Go.Proofs.Ytpghadmpegncgaa

/-
  STRAPS (13): the code that counts the differences. Conditions: none.
-/
namespace Go.Proofs.Ytpghadmpegncgaa
open Go.AM
open Go.Proofs.Try (prog)
set_option linter.all false
set_option maxRecDepth 100000
set_option maxHeartbeats 4000000

theorem rem_nat {v : Int} {l : List Int} (s : RingOk v l) {i j : Nat} (hi : i < l.length) (hj : j < l.length) : ∃ d : Nat, (nth l i - nth l j + v).tmod v = d ∧ (d : Int) < v := by
  have a := s.rng i hi
  have b := s.rng j hj
  have h := s.v2
  have e := Int.tmod_eq_emod_of_nonneg (a := nth l i - nth l j + v) (b := v) (by omega)
  have h1 := Int.emod_nonneg (nth l i - nth l j + v) (show v ≠ 0 by omega)
  have h2 := Int.emod_lt_of_pos (nth l i - nth l j + v) (show 0 < v by omega)
  exact ⟨((nth l i - nth l j + v) % v).toNat, by rw [e]; omega, by omega⟩
theorem df_in {w : AV} {v : Int} {l : List Int} (hv : IsInts w l) (s : RingOk v l) {i : Nat} (hi : i < l.length) (oid : Nat) (K : List Item) : ∀ (k j : Nat) (c : List Int) (m : Mem), j + k = l.length → m.h oid = some (.cells (ints c)) → c.length = v.toNat → Small c (1000000 + j) →
    ∃ m', m'.h oid = some (.cells (ints (dfF l v i k j c))) ∧ strap_differences.L2 (.int .i64 v) w (.sl oid 1 0 c.length c.length) (.int .i64 (nth l i)) w (.int .i64 l.length) (.int .i64 i) w (.int .i64 l.length) (.int .i64 j) m (.inBlock 1 :: .code strap_differences.r11 :: .inLoop strap_differences.l0 :: .inBlock 0 :: K) = strap_differences.L0 (.int .i64 v) w (.sl oid 1 0 c.length c.length) w (.int .i64 l.length) (.int .i64 ((i : Int) + 1)) m' K := by
  intro k
  have hfew := s.few
  have hv2 := s.v2
  have hv31 := s.v31
  have hwi : IntKind.wrap .i64 ((i : Int) + 1) = (i : Int) + 1 := wrap_id (by omega) (by omega)
  induction k with
  | zero =>
    intro j c m h1 hm hc hs
    have e : j = l.length := by omega
    subst e
    refine ⟨m, hm, ?_⟩
    rw [strap_differences.L2_eq]
    simp [hwi]
    done
  | succ k ih =>
    intro j c m h1 hm hc hs
    have hj : j < l.length := by omega
    have hw : IntKind.wrap .i64 ((j : Int) + 1) = (j : Int) + 1 := wrap_id (by omega) (by omega)
    by_cases e : i = j
    · subst e
      have hst := ih (i + 1) c m (by omega) hm hc (fun g => by have := hs g; omega)
      simp only [Int.natCast_add, Int.cast_ofNat_Int] at hst
      obtain ⟨m', g1, g2⟩ := hst
      refine ⟨m', by rw [dfF_succ, if_pos rfl]; exact g1, ?_⟩
      rw [strap_differences.L2_eq]
      simp [hj, hv.idx hj, ints_head hj, hwi, g2]
      done
    · have a1 := s.rng i hi
      have a2 := s.rng j hj
      have hne : ¬ nth l i = nth l j := fun h => e ((s.ne hi hj).1 h)
      obtain ⟨d, hd, hdv⟩ := rem_nat s hi hj
      have hw1 : IntKind.wrap .i64 (nth l i - nth l j) = nth l i - nth l j := wrap_id (by omega) (by omega)
      have hw2 : IntKind.wrap .i64 (nth l i - nth l j + v) = nth l i - nth l j + v := wrap_id (by omega) (by omega)
      have hv0 : ¬ v = 0 := by omega
      have hdl : d < c.length := by omega
      have hs2 := hs d
      have hwc : IntKind.wrap .i64 (nth c d + 1) = nth c d + 1 := wrap_id (by omega) (by omega)
      have hst := fun m hm => ih (j + 1) (bump c d) m (by omega) hm (by rw [bump_len, hc]) (by have := hs.bump (by omega) d; rwa [show (1000000 + (j : Int) + 1) = 1000000 + ((j + 1 : Nat) : Int) by omega] at this)
      rw [bump_len] at hst
      simp only [Int.natCast_add, Int.cast_ofNat_Int] at hst
      have hc' : c.set d (nth c d + 1) = bump c d := rfl
      obtain ⟨m', g1, g2⟩ := hst ⟨upd m.h oid (some (.cells (ints (bump c d)))), m.nx⟩ (by simp)
      refine ⟨m', by rw [dfF_succ, if_neg e, hd]; exact g1, ?_⟩
      rw [strap_differences.L2_eq]
      simp [hj, hv.idx hj, ints_head hj, hne, hw1, hw2, hv0, hd, hdl, hm, hwc, hw, hc', g2]
      done
theorem df_out {w : AV} {v : Int} {l : List Int} (hv : IsInts w l) (s : RingOk v l) (oid : Nat) : ∀ (k i : Nat) (c : List Int) (m : Mem), i + k = l.length → m.h oid = some (.cells (ints c)) → c.length = v.toNat → Small c (1000 * i) →
    strap_differences.L0 (.int .i64 v) w (.sl oid 1 0 c.length c.length) w (.int .i64 l.length) (.int .i64 i) m [.code strap_differences.r12, .code .ret] = some (intsV (dfO l v k i c), Mem.empty) := by
  intro k
  have hfew := s.few
  have hv2 := s.v2
  induction k with
  | zero =>
    intro i c m h1 hm hc hs
    have e : i = l.length := by omega
    subst e
    have hne : c ≠ [] := by intro e; rw [e] at hc; simp at hc; omega
    rw [strap_differences.L0_eq]
    simp [intsV, hne, dfO, hm]
    done
  | succ k ih =>
    intro i c m h1 hm hc hs
    have hi : i < l.length := by omega
    have hw : IntKind.wrap .i64 ((i : Int) + 1) = (i : Int) + 1 := wrap_id (by omega) (by omega)
    obtain ⟨m', g1, g2⟩ := df_in hv s hi oid [.code strap_differences.r12, .code .ret] l.length 0 c m (by omega) hm hc (fun g => by have := hs g; omega)
    simp only [Int.ofNat_zero, Int.cast_ofNat_Int] at g2
    have hst := ih (i + 1) (dfF l v i l.length 0 c) m' (by omega) g1 (by rw [dfF_len, hc]) (by
      have := hs.dfF (l := l) (v := v) (i := i) (k := l.length) (j := 0) (by omega)
      intro g; have := this g; omega)
    simp only [Int.natCast_add, Int.cast_ofNat_Int, dfF_len] at hst
    rw [strap_differences.L0_eq]
    simp [hi, hv.idx hi, ints_head hi, hv.len, g2, hst, dfO_succ]
    done
theorem diffs_spec {w : AV} {v : Int} {l : List Int} (hv : IsInts w l) (s : RingOk v l) (m : Mem) : denC prog ann 56 [.int .i64 v, w] m = some (intsV (diffs v l), m) := by
  have hcl : closedL [.int .i64 v, w] = true := by simp [hv.closed]
  have hv2 := s.v2
  have hv31 := s.v31
  obtain ⟨t, ht⟩ : ∃ t : Nat, v = t := ⟨v.toNat, by omega⟩
  have e : v.toNat = t := by omega
  rw [diffs, e]
  have lp := df_out hv s 0 l.length 0 (List.replicate t 0) ⟨upd Mem.empty.h 0 (some (.cells (List.replicate t (AV.int .i64 0)))), 1⟩ (by omega) (by simp [ints]) (by simp [e]) (fun g => by rw [nth_zero']; omega)
  simp only [Int.ofNat_zero, Int.cast_ofNat_Int, List.length_replicate] at lp
  rw [strap_differences.call_eq _ _ _ hcl]
  subst ht
  simp [hv.len, show t ≤ 4611686018427387904 by omega, show t * 8 ≤ 70368744177664 by omega, lp]
  done

/-! ### The specification's -/
theorem rd_in {w : AV} {v : Int} {l : List Int} (hv : IsInts w l) (s : RingOk v l) {i : Nat} (hi : i < l.length) (oid : Nat) (K : List Item) : ∀ (k j : Nat) (c : List Int) (m : Mem), j + k = l.length → m.h oid = some (.cells (ints c)) → c.length = v.toNat → Small c (1000000 + j) →
    ∃ m', m'.h oid = some (.cells (ints (dfF l v i k j c))) ∧ r04_Even.L2 (.int .i64 v) w (.sl oid 1 0 c.length c.length) (.int .i64 i) (.int .i64 j) m (.inBlock 1 :: .code r04_Even.r4 :: .inLoop r04_Even.l0 :: .inBlock 0 :: K) = r04_Even.L0 (.int .i64 v) w (.sl oid 1 0 c.length c.length) (.int .i64 ((i : Int) + 1)) m' K := by
  intro k
  have hfew := s.few
  have hv2 := s.v2
  have hv31 := s.v31
  have hwi : IntKind.wrap .i64 ((i : Int) + 1) = (i : Int) + 1 := wrap_id (by omega) (by omega)
  induction k with
  | zero =>
    intro j c m h1 hm hc hs
    have e : j = l.length := by omega
    subst e
    refine ⟨m, hm, ?_⟩
    rw [r04_Even.L2_eq]
    simp [hv.len, hwi]
    done
  | succ k ih =>
    intro j c m h1 hm hc hs
    have hj : j < l.length := by omega
    have hw : IntKind.wrap .i64 ((j : Int) + 1) = (j : Int) + 1 := wrap_id (by omega) (by omega)
    by_cases e : i = j
    · subst e
      have hst := ih (i + 1) c m (by omega) hm hc (fun g => by have := hs g; omega)
      simp only [Int.natCast_add, Int.cast_ofNat_Int] at hst
      obtain ⟨m', g1, g2⟩ := hst
      refine ⟨m', by rw [dfF_succ, if_pos rfl]; exact g1, ?_⟩
      rw [r04_Even.L2_eq]
      simp [hj, hv.len, hwi, g2]
      done
    · have a1 := s.rng i hi
      have a2 := s.rng j hj
      have hne : ¬ (i : Int) = (j : Int) := by omega
      obtain ⟨d, hd, hdv⟩ := rem_nat s hi hj
      have hw1 : IntKind.wrap .i64 (nth l i - nth l j) = nth l i - nth l j := wrap_id (by omega) (by omega)
      have hw2 : IntKind.wrap .i64 (nth l i - nth l j + v) = nth l i - nth l j + v := wrap_id (by omega) (by omega)
      have hv0 : ¬ v = 0 := by omega
      have hdl : d < c.length := by omega
      have hs2 := hs d
      have hwc : IntKind.wrap .i64 (nth c d + 1) = nth c d + 1 := wrap_id (by omega) (by omega)
      have hst := fun m hm => ih (j + 1) (bump c d) m (by omega) hm (by rw [bump_len, hc]) (by have := hs.bump (by omega) d; rwa [show (1000000 + (j : Int) + 1) = 1000000 + ((j + 1 : Nat) : Int) by omega] at this)
      rw [bump_len] at hst
      simp only [Int.natCast_add, Int.cast_ofNat_Int] at hst
      have hc' : c.set d (nth c d + 1) = bump c d := rfl
      obtain ⟨m', g1, g2⟩ := hst ⟨upd m.h oid (some (.cells (ints (bump c d)))), m.nx + 19⟩ (by simp)
      refine ⟨m', by rw [dfF_succ, if_neg e, hd]; exact g1, ?_⟩
      rw [r04_Even.L2_eq]
      simp [hj, hv.len, hv.idx hi, ints_head hi, hv.idx hj, ints_head hj, hne, e, hw1, hw2, hv0, hd, hdl, hm, hwc, hw, hc', g2]
      done
end Go.Proofs.Ytpghadmpegncgaa

/-
  STRAPS (10): Single, and the specification's. Conditions: none.
-/
namespace Go.Proofs.Ytpghadmpegncgaa
open Go.AM
open Go.Proofs.Try (prog)
set_option linter.all false
set_option maxRecDepth 100000
set_option maxHeartbeats 4000000

def endsAt (L : Int) (l : List Int) : Bool := decide (top l = L)
theorem one_ok : StrapOk [0] := ⟨by decide, by decide, rfl, fun i hi => by simp at hi, by decide⟩
/-- Length after length. -/
def sngS (k : Nat) : Nat → Int → Option (List Int)
  | 0, _ => none
  | n + 1, L => match findF gSingle (endsAt L) L (k - 1) [0] with
    | some r => some r
    | none => sngS k n (L + 1)
/-! ### The specification's -/
def rsF (L : Int) : Nat → List Int → Option (List Int)
  | 0, l => if (tw0 l l.length 0 []).isEmpty = true then (if top l = L then some l else none) else none
  | f + 1, l => if (tw0 l l.length 0 []).isEmpty = true then firstF (rsF L f) l (L - top l).toNat (top l + 1) else none
def rsS (k : Nat) : Nat → Int → Option (List Int)
  | 0, _ => none
  | n + 1, L => match rsF L (k - 1) [0] with
    | some r => some r
    | none => rsS k n (L + 1)
end Go.Proofs.Ytpghadmpegncgaa

/-
  BODIES OF FUNCTIONS OF THE PROGRAM AS SMALL OPERATIONS (written by gen.py; checked by the kernel against the program). Conditions: none.
-/
namespace Go.Proofs.Ytpghadmpegncgaa
open Go.AM
open Go.Proofs.Try (prog)
set_option maxRecDepth 100000
set_option linter.all false






end Go.Proofs.Ytpghadmpegncgaa

/-
  STRAPS (11): Full, and the specification's. Conditions: none.
-/
namespace Go.Proofs.Ytpghadmpegncgaa
open Go.AM
open Go.Proofs.Try (prog)
set_option linter.all false
set_option maxRecDepth 100000
set_option maxHeartbeats 4000000

def always (_ : List Int) : Bool := true
def fullAt (L : Int) (l : List Int) : Bool := decide (top l = L) && !decide ((0 : Int) ∈ (counts l).drop 1)
def flS (L : Int) : Nat → Nat → Option (List Int)
  | 0, _ => none
  | n + 1, size => if ((size : Int) * ((size : Int) - 1)).tdiv 2 < L then flS L n (size + 1) else match findF always (fullAt L) L (size - 1) [0] with
    | some r => some r
    | none => flS L n (size + 1)
/-! ### The specification's -/
def rfF (L : Int) : Nat → List Int → Option (List Int)
  | 0, l => if top l = L then (if (misses l).length = 0 then some l else none) else none
  | f + 1, l => firstF (rfF L f) l (L - top l).toNat (top l + 1)
def rfS (L : Int) : Nat → Nat → Option (List Int)
  | 0, _ => none
  | n + 1, k => match rfF L (k - 1) [0] with
    | some r => some r
    | none => rfS L n (k + 1)
end Go.Proofs.Ytpghadmpegncgaa

/-
  STRAPS (14): Even, and the specification's. Conditions: none.
-/
namespace Go.Proofs.Ytpghadmpegncgaa
open Go.AM
open Go.Proofs.Try (prog)
set_option linter.all false
set_option maxRecDepth 100000
set_option maxHeartbeats 4000000

def eqA (c : List Int) (k d : Nat) : Bool := (List.range' d k).all fun g => decide (nth c g = nth c 1)
theorem re_loop {v : Nat} {c : List Int} (hc : c.length = v) (hv : 2 ≤ v ∧ v ≤ 31) (oid : Nat) : ∀ (k d : Nat) (m : Mem), d + k = v → m.h oid = some (.cells (ints c)) →
    r04_Even.L4 (.int .i64 v) (.sl oid 1 0 c.length c.length) (.int .i64 d) m [.code r04_Even.r15, .code .ret] = some (if eqA c k d = true then .tup [.int .i64 (nth c 1), .bool true] else .tup [.int .i64 0, .bool false], Mem.empty) := by
  intro k
  have h1l : 1 < c.length := by omega
  have h1i : (1 : Int) < c.length := by omega
  induction k with
  | zero =>
    intro d m h1 hm
    have e : d = v := by omega
    subst e
    rw [r04_Even.L4_eq]
    have hz : eqA c 0 d = true := rfl
    rw [hz, if_pos rfl]
    simp [h1l, h1i, hm]
    done
  | succ k ih =>
    intro d m h1 hm
    have hd : d < v := by omega
    have hdc : d < c.length := by omega
    have hw : IntKind.wrap .i64 ((d : Int) + 1) = (d : Int) + 1 := wrap_id (by omega) (by omega)
    have hst := ih (d + 1) ⟨m.h, m.nx + 8⟩ (by omega) hm
    simp only [Int.natCast_add, Int.cast_ofNat_Int] at hst
    have e : eqA c (k + 1) d = (decide (nth c d = nth c 1) && eqA c k (d + 1)) := by simp [eqA, List.range'_succ]
    rw [e, r04_Even.L4_eq]
    by_cases q : nth c d = nth c 1
    · rw [decide_eq_true q, Bool.true_and]
      simp [hd, hdc, h1l, h1i, hm, q, hw, hst]
      done
    · rw [decide_eq_false q, Bool.false_and]
      simp [hd, hdc, h1l, h1i, hm, q]
      done
/-- What the specification's Even hands back. -/
def evenV (c : List Int) (n : Nat) : AV := if eqA c n 1 = true then .tup [.int .i64 (nth c 1), .bool true] else .tup [.int .i64 0, .bool false]
theorem re_out {w : AV} {v : Nat} {l : List Int} (hv : IsInts w l) (s : RingOk v l) (oid : Nat) : ∀ (k i : Nat) (c : List Int) (m : Mem), i + k = l.length → m.h oid = some (.cells (ints c)) → c.length = v → Small c (1000 * i) →
    r04_Even.L0 (.int .i64 v) w (.sl oid 1 0 c.length c.length) (.int .i64 i) m [.code r04_Even.r10, .code r04_Even.k4, .code r04_Even.r15, .code .ret] = some (evenV (dfO l v k i c) (v - 1), Mem.empty) := by
  intro k
  have hfew := s.few
  have hv2 := s.v2
  have hv31 := s.v31
  induction k with
  | zero =>
    intro i c m h1 hm hc hs
    have e : i = l.length := by omega
    subst e
    have lp := re_loop hc (by omega) oid (v - 1) 1 m (by omega) hm
    simp only [Int.cast_ofNat_Int] at lp
    rw [r04_Even.L0_eq]
    simp [hv.len, lp, dfO, evenV]
    done
  | succ k ih =>
    intro i c m h1 hm hc hs
    have hi : i < l.length := by omega
    have hw : IntKind.wrap .i64 ((i : Int) + 1) = (i : Int) + 1 := wrap_id (by omega) (by omega)
    obtain ⟨m', g1, g2⟩ := rd_in hv s hi oid [.code r04_Even.r10, .code r04_Even.k4, .code r04_Even.r15, .code .ret] l.length 0 c m (by omega) hm (by omega) (fun g => by have := hs g; omega)
    simp only [Int.ofNat_zero, Int.cast_ofNat_Int] at g2
    have hst := ih (i + 1) (dfF l v i l.length 0 c) m' (by omega) g1 (by rw [dfF_len, hc]) (by
      have := hs.dfF (l := l) (v := v) (i := i) (k := l.length) (j := 0) (by omega)
      intro g; have := this g; omega)
    simp only [Int.natCast_add, Int.cast_ofNat_Int, dfF_len] at hst
    rw [r04_Even.L0_eq]
    simp [hi, hv.len, g2, hst, dfO_succ]
    done
theorem reven_spec {w : AV} {v : Nat} {l : List Int} (hv : IsInts w l) (s : RingOk v l) (m : Mem) : denC prog ann 33 [.int .i64 v, w] m = some (evenV (diffs v l) (v - 1), m) := by
  have hcl : closedL [.int .i64 v, w] = true := by simp [hv.closed]
  have hv2 := s.v2
  have hv31 := s.v31
  rw [diffs, Int.toNat_natCast]
  have lp := re_out hv s 0 l.length 0 (List.replicate v 0) ⟨upd Mem.empty.h 0 (some (.cells (List.replicate v (AV.int .i64 0)))), 1⟩ (by omega) (by simp [ints]) (by simp) (fun g => by rw [nth_zero']; omega)
  simp only [Int.ofNat_zero, Int.cast_ofNat_Int, List.length_replicate] at lp
  rw [r04_Even.call_eq _ _ _ hcl]
  simp [show v ≤ 4611686018427387904 by omega, show v * 8 ≤ 70368744177664 by omega, lp]
  done

/-! ### The code's -/
def minL (c : List Int) : Int := (c.drop 1).foldl min (nth c 0)
theorem foldl_max_ge : ∀ (L : List Int) (x : Int), x ≤ L.foldl max x ∧ ∀ y ∈ L, y ≤ L.foldl max x
  | [], x => ⟨Int.le_refl _, fun _ h => by cases h⟩
  | a :: L, x => by
    obtain ⟨h1, h2⟩ := foldl_max_ge L (max x a)
    refine ⟨by rw [List.foldl_cons]; omega, fun y hy => ?_⟩
    rw [List.foldl_cons]
    rcases List.mem_cons.1 hy with rfl | hy
    · omega
    · exact h2 y hy
theorem nth_drop (c : List Int) (i j : Nat) : nth (c.drop i) j = nth c (i + j) := by simp [nth, List.getD, List.getElem?_drop]
theorem eqA_iff {c : List Int} {v : Nat} (hc : c.length = v) (hv : 2 ≤ v) : eqA c (v - 1) 1 = true ↔ ∀ y ∈ c.drop 1, y = nth c 1 := by
  rw [eqA, List.all_eq_true]
  constructor
  · intro a y hy
    obtain ⟨i, hi, e⟩ := List.getElem_of_mem hy
    rw [nth_get hi, nth_drop] at e
    simp at hi
    have := a (1 + i) (by simp [List.mem_range'_1]; omega)
    rw [decide_eq_true_eq] at this
    omega
  · intro a g hg
    simp [List.mem_range'_1] at hg
    rw [decide_eq_true_eq]
    refine a _ ?_
    have : g - 1 < (c.drop 1).length := by simp; omega
    have e := nth_drop c 1 (g - 1)
    rw [show 1 + (g - 1) = g by omega] at e
    rw [← e, ← nth_get this]
    exact List.getElem_mem _
theorem diffs_len (v : Int) (l : List Int) : (diffs v l).length = v.toNat := by rw [diffs, dfO_len, List.length_replicate]
end Go.Proofs.Ytpghadmpegncgaa

/-
  STRAPS (15): the differences in plain terms: their sum, and that they grow with the list. Conditions: none.
-/
namespace Go.Proofs.Ytpghadmpegncgaa
open Go.AM
set_option linter.all false
set_option maxRecDepth 10000
set_option maxHeartbeats 2000000

def sumL : List Int → Int
  | [] => 0
  | a :: l => a + sumL l
theorem sumL_set : ∀ (c : List Int) (h : Nat) (v : Int), h < c.length → sumL (c.set h v) = sumL c - nth c h + v
  | [], h, _, hh => by simp at hh
  | a :: c, 0, v, _ => by simp [sumL, nth]; omega
  | a :: c, h + 1, v, hh => by
    have := sumL_set c h v (by simpa using hh)
    simp only [List.set_cons_succ, sumL, this]
    have e : nth (a :: c) (h + 1) = nth c h := by simp [nth]
    rw [e]; omega
theorem sumL_bump {c : List Int} {h : Nat} (hh : h < c.length) : sumL (bump c h) = sumL c + 1 := by
  rw [bump, sumL_set c h _ hh]; omega
theorem sumL_rep : ∀ n : Nat, sumL (List.replicate n 0) = 0
  | 0 => rfl
  | n + 1 => by rw [List.replicate_succ, sumL, sumL_rep n]; rfl
theorem dfF_sum {v : Int} {l : List Int} (s : RingOk v l) {i : Nat} (hi : i < l.length) : ∀ {k j : Nat} {c : List Int}, j + k ≤ l.length → c.length = v.toNat → sumL (dfF l v i k j c) = sumL c + ((List.range' j k).countP fun q => !decide (i = q) : Nat)
  | 0, j, c, _, _ => by simp [dfF]
  | k + 1, j, c, h, hc => by
    rw [dfF_succ, dfF_sum s hi (by omega) (by split <;> simp [bump_len, hc]), List.range'_succ, List.countP_cons]
    by_cases e : i = j
    · simp [e]
    · obtain ⟨d, hd, hdv⟩ := rem_nat s hi (show j < l.length by omega)
      rw [if_neg e, hd, Int.toNat_natCast, sumL_bump (by omega)]
      simp [e] <;> omega
theorem count_ne (i : Nat) : ∀ (k j : Nat), ((List.range' j k).countP fun q => !decide (i = q)) + (if j ≤ i ∧ i < j + k then 1 else 0) = k
  | 0, j => by rw [if_neg (by omega)]; rfl
  | k + 1, j => by
    have := count_ne i k (j + 1)
    rw [List.range'_succ, List.countP_cons]
    by_cases e : i = j
    · subst e
      rw [if_neg (by omega)] at this
      rw [if_neg (by simp), if_pos (by omega)]
      omega
    · simp only [decide_eq_false e, Bool.not_false, if_true]
      by_cases q : j + 1 ≤ i ∧ i < j + 1 + k
      · rw [if_pos q] at this
        rw [if_pos (by omega)]; omega
      · rw [if_neg q] at this
        rw [if_neg (by omega)]; omega
theorem dfO_sum {v : Int} {l : List Int} (s : RingOk v l) : ∀ {k i : Nat} {c : List Int}, i + k ≤ l.length → c.length = v.toNat → sumL (dfO l v k i c) = sumL c + (k * (l.length - 1) : Nat)
  | 0, i, c, _, _ => by simp [dfO]
  | k + 1, i, c, h, hc => by
    have a := count_ne i l.length 0
    rw [if_pos (by omega)] at a
    rw [dfO_succ, dfO_sum s (by omega) (by rw [dfF_len, hc]), dfF_sum s (show i < l.length by omega) (by omega) hc, Nat.succ_mul]
    omega
theorem diffs_sum {v : Int} {l : List Int} (s : RingOk v l) : sumL (diffs v l) = (l.length * (l.length - 1) : Nat) := by
  rw [diffs, dfO_sum s (by omega) (by simp), sumL_rep]; omega
/-- How often a difference comes. -/
def dHit (l : List Int) (v : Int) (g i q : Nat) : Bool := !decide (i = q) && decide ((nth l i - nth l q + v).tmod v = g)
theorem dfF_nth {v : Int} {l : List Int} (s : RingOk v l) {i : Nat} (hi : i < l.length) (g : Nat) : ∀ {k j : Nat} {c : List Int}, j + k ≤ l.length → c.length = v.toNat → nth (dfF l v i k j c) g = nth c g + ((List.range' j k).countP (dHit l v g i) : Nat)
  | 0, j, c, _, _ => by simp [dfF]
  | k + 1, j, c, h, hc => by
    rw [dfF_succ, dfF_nth s hi g (by omega) (by split <;> simp [bump_len, hc]), List.range'_succ, List.countP_cons]
    by_cases e : i = j
    · simp [e, dHit]
    · obtain ⟨d, hd, hdv⟩ := rem_nat s hi (show j < l.length by omega)
      rw [if_neg e, hd, Int.toNat_natCast, nth_bump (by omega)]
      simp only [dHit, decide_eq_false e, Bool.not_false, Bool.true_and, hd]
      by_cases q : g = d
      · subst q; simp; omega
      · have q' : ¬ (d : Int) = (g : Int) := by omega
        simp [q, q']
def dCnt (l : List Int) (v : Int) (g n : Nat) : Nat → Nat → Nat
  | 0, _ => 0
  | k + 1, i => (List.range' 0 n).countP (dHit l v g i) + dCnt l v g n k (i + 1)
theorem dfO_nth {v : Int} {l : List Int} (s : RingOk v l) (g : Nat) : ∀ {k i : Nat} {c : List Int}, i + k ≤ l.length → c.length = v.toNat → nth (dfO l v k i c) g = nth c g + (dCnt l v g l.length k i : Nat)
  | 0, i, c, _, _ => by simp [dfO, dCnt]
  | k + 1, i, c, h, hc => by
    rw [dfO_succ, dfO_nth s g (by omega) (by rw [dfF_len, hc]), dfF_nth s (show i < l.length by omega) g (by omega) hc, dCnt]
    omega
theorem diffs_nth {v : Int} {l : List Int} (s : RingOk v l) (g : Nat) : nth (diffs v l) g = dCnt l v g l.length l.length 0 := by
  rw [diffs, dfO_nth s g (by omega) (by simp), nth_zero']; omega
theorem dHit_app {l : List Int} {v : Int} {g i q : Nat} {x : Int} (hi : i < l.length) (hq : q < l.length) : dHit (l ++ [x]) v g i q = dHit l v g i q := by
  simp only [dHit, nth_append, if_pos hi, if_pos hq]
theorem dCnt_app {l : List Int} {v : Int} {g : Nat} {x : Int} : ∀ {k i : Nat}, i + k ≤ l.length → dCnt l v g l.length k i ≤ dCnt (l ++ [x]) v g (l.length + 1) (k + 1) i
  | 0, i, _ => Nat.zero_le _
  | k + 1, i, h => by
    have ih := dCnt_app (l := l) (v := v) (g := g) (x := x) (k := k) (i := i + 1) (by omega)
    rw [dCnt, dCnt]
    have e : (List.range' 0 (l.length + 1)) = List.range' 0 l.length ++ [l.length] := by simpa using List.range'_concat (s := 0) (n := l.length) (step := 1)
    have e2 : (List.range' 0 l.length).countP (dHit (l ++ [x]) v g i) = (List.range' 0 l.length).countP (dHit l v g i) := by
      refine List.countP_congr fun q hq => ?_
      simp [List.mem_range'_1] at hq
      rw [dHit_app (by omega) hq]
    rw [e, List.countP_append, e2]
    omega
theorem diffs_mono {v : Int} {l : List Int} {x : Int} (s : RingOk v l) (s2 : RingOk v (l ++ [x])) (g : Nat) : nth (diffs v l) g ≤ nth (diffs v (l ++ [x])) g := by
  rw [diffs_nth s, diffs_nth s2, List.length_append, List.length_singleton]
  have := dCnt_app (l := l) (v := v) (g := g) (x := x) (k := l.length) (i := 0) (by omega)
  omega
theorem diffs_zero {v : Int} {l : List Int} (s : RingOk v l) : nth (diffs v l) 0 = 0 := by
  rw [diffs_nth s]
  have : ∀ k i, i + k ≤ l.length → dCnt l v 0 l.length k i = 0 := by
    intro k
    induction k with
    | zero => intro i _; rfl
    | succ k ih =>
      intro i h
      have z : (List.range' 0 l.length).countP (dHit l v 0 i) = 0 := by
        rw [List.countP_eq_zero]
        intro q hq
        simp [List.mem_range'_1] at hq
        simp only [dHit, Bool.and_eq_true, Bool.not_eq_true', decide_eq_false_iff_not, decide_eq_true_eq, not_and]
        intro hne h0
        have a := s.rng i (by omega)
        have b := s.rng q hq
        have hn : ¬ nth l i = nth l q := fun h => hne ((s.ne (by omega) hq).1 h)
        rw [Int.tmod_eq_emod_of_nonneg (by omega)] at h0
        have h2 := s.v2
        have := Int.emod_add_mul_ediv (nth l i - nth l q + v) v
        by_cases h3 : nth l i - nth l q + v < v
        · rw [Int.emod_eq_of_lt (by omega) h3] at h0; omega
        · have e : nth l i - nth l q + v = (nth l i - nth l q) + v * 1 := by omega
          rw [e, Int.add_mul_emod_self_left, Int.emod_eq_of_lt (by omega) (by omega)] at h0
          omega
      rw [dCnt, z, ih (i + 1) (by omega)]
  rw [this _ _ (by omega)]; rfl
/-! ### The greatest -/
theorem maxL_le {c : List Int} {b : Int} (h : 0 < c.length) : maxL c ≤ b ↔ ∀ g, g < c.length → nth c g ≤ b := by
  have h0 : c = nth c 0 :: c.drop 1 := by
    have := drop_nth (l := c) (i := 0) h
    simpa using this
  obtain ⟨a1, a2⟩ := foldl_max_ge (c.drop 1) (nth c 0)
  constructor
  · intro hb g hg
    unfold maxL at hb
    have : nth c g ∈ c := nth_mem hg
    rw [h0] at this
    rcases List.mem_cons.1 this with e | e
    · rw [← h0] at e; omega
    · rw [← h0] at e
      have := a2 _ e; omega
  · intro hb
    have : ∀ (L : List Int) (x : Int), x ≤ b → (∀ y ∈ L, y ≤ b) → L.foldl max x ≤ b := by
      intro L
      induction L with
      | nil => intro x hx _; exact hx
      | cons a L ih =>
        intro x hx hy
        rw [List.foldl_cons]
        exact ih _ (by have := hy a (by simp); omega) fun y h => hy y (by simp [h])
    refine this _ _ (hb 0 h) fun y hy => ?_
    obtain ⟨i, hi, e⟩ := List.getElem_of_mem hy
    rw [nth_get hi, nth_drop] at e
    simp at hi
    rw [← e]; exact hb _ (by omega)
theorem sumL_le : ∀ {c : List Int} {b : Int}, (∀ y ∈ c, y ≤ b) → sumL c ≤ b * c.length ∧ (sumL c = b * c.length → ∀ y ∈ c, y = b)
  | [], b, _ => ⟨by simp [sumL], fun _ y h => by cases h⟩
  | a :: c, b, h => by
    obtain ⟨h1, h2⟩ := sumL_le (c := c) (b := b) fun y hy => h y (by simp [hy])
    have ha := h a (by simp)
    have e : b * ((a :: c).length : Nat) = b * c.length + b := by simp [Int.mul_add]
    rw [sumL, e]
    refine ⟨by omega, fun hs y hy => ?_⟩
    rcases List.mem_cons.1 hy with rfl | hy
    · omega
    · exact h2 (by omega) y hy
theorem sumL_same : ∀ {c : List Int} {b : Int}, (∀ y ∈ c, y = b) → sumL c = b * c.length
  | [], b, _ => by simp [sumL]
  | a :: c, b, h => by
    have := sumL_same (c := c) (b := b) fun y hy => h y (by simp [hy])
    have e : b * ((a :: c).length : Nat) = b * c.length + b := by simp [Int.mul_add]
    rw [sumL, e, this, h a (by simp)]; omega
theorem sumL_drop {c : List Int} (h : 0 < c.length) : sumL c = nth c 0 + sumL (c.drop 1) := by
  have := drop_nth (l := c) (i := 0) h
  rw [List.drop_zero] at this
  conv => lhs; rw [this]
  rfl
def gRound (v often : Int) (l : List Int) : Bool := decide (maxL (diffs v l) ≤ often)
def pRound (v : Nat) (often : Int) (l : List Int) : Bool := eqA (diffs v l) (v - 1) 1 && decide (nth (diffs v l) 1 = often)
/-- A round strap is even, by a number, when no difference comes more often, and the counts fit. -/
theorem round_iff {v : Nat} {often : Int} {l : List Int} (s : RingOk v l) (ho : 0 ≤ often) : pRound v often l = true ↔ gRound v often l = true ∧ ((l.length * (l.length - 1) : Nat) : Int) = often * ((v : Int) - 1) := by
  have hlen := diffs_len v l
  rw [Int.toNat_natCast] at hlen
  have hv2 := s.v2
  have hsum := diffs_sum s
  have hz := diffs_zero s
  have hd : ((diffs v l).drop 1).length = v - 1 := by simp; omega
  rw [sumL_drop (by omega), hz] at hsum
  rw [pRound, Bool.and_eq_true, decide_eq_true_eq, eqA_iff hlen (by omega), gRound, decide_eq_true_eq, maxL_le (by omega)]
  generalize diffs (↑v) l = c at *
  have e1 : ((v - 1 : Nat) : Int) = (v : Int) - 1 := by omega
  constructor
  · rintro ⟨h1, h2⟩
    have h3 : ∀ y ∈ c.drop 1, y = often := fun y hy => by rw [h1 y hy, h2]
    have h4 := sumL_same h3
    rw [hd, e1] at h4
    refine ⟨fun g hg => ?_, by omega⟩
    rcases Nat.eq_zero_or_pos g with rfl | hg0
    · omega
    · have e := nth_drop c 1 (g - 1)
      rw [show 1 + (g - 1) = g by omega] at e
      have := h3 _ (nth_mem (l := c.drop 1) (i := g - 1) (by omega))
      omega
  · rintro ⟨h1, h2⟩
    have h3 : ∀ y ∈ c.drop 1, y ≤ often := fun y hy => by
      obtain ⟨i, hi, e⟩ := List.getElem_of_mem hy
      rw [nth_get hi, nth_drop] at e
      rw [← e]; exact h1 _ (by omega)
    obtain ⟨_, h5⟩ := sumL_le h3
    rw [hd, e1] at h5
    have h6 := h5 (by omega)
    have e := nth_drop c 1 0
    have h7 := h6 _ (nth_mem (l := c.drop 1) (i := 0) (by omega))
    rw [e] at h7
    exact ⟨fun y hy => by rw [h6 y hy]; exact h7.symm, h7⟩
end Go.Proofs.Ytpghadmpegncgaa
