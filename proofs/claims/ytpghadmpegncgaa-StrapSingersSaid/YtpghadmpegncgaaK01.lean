/-
  BODIES OF FUNCTIONS OF THE PROGRAM AS SMALL OPERATIONS (written by gen.py; checked by the kernel against the program). Conditions: none.
-/
import Derived.Test.YtpghadmpegncgaaKAmH
import Derived.Test.YtpghadmpegncgaaK00
set_option linter.all false
namespace Go.Proofs.Ytpghadmpegncgaa
open Go.AM
open Go.Proofs.Try (prog)
set_option maxRecDepth 100000
set_option linter.all false

namespace strap_Round
/-- pommel/strap.Round -/
noncomputable def b : Code := (Try.f17.body).getD .skip
theorem hf : prog.funcs[17]? = some Try.f17 := by kernel_rfl
noncomputable def r0 : Code := findReg b 0
noncomputable def r1 : Code := findReg b 1
noncomputable def i0 : Code := findCond b 0
noncomputable def i0t : Code := thenOf i0
noncomputable def i0e : Code := elseOf i0
noncomputable def r2 : Code := findReg b 2
noncomputable def r3 : Code := findReg b 3
noncomputable def r4 : Code := findReg b 4
noncomputable def i1 : Code := findCond b 1
noncomputable def i1t : Code := thenOf i1
noncomputable def i1e : Code := elseOf i1
noncomputable def r5 : Code := findReg b 5
noncomputable def r6 : Code := findReg b 6
theorem b_eq (K : List Item) (s : St) : den prog ann 17 (.code b :: K) s = den prog ann 17 (.code r0 :: .code r1 :: .code i0 :: .code r3 :: .code r4 :: .code i1 :: .code r6 :: .code .ret :: K) s := den_flat hf (l := [r0, r1, i0, r3, r4, i1, r6, .ret]) (by kernel_rfl) K s
theorem r0_eq (K : List Item) (s : St) : den prog ann 17 (.code r0 :: K) s = mreg prog ann 17 none [] none [] [
    ⟨some 6, none, .v fun s => some (.nils)⟩,
    ⟨some 7, none, .v fun s => some (.int .i64 0)⟩] K s := (den_reg hf _ K s).trans (by kernel_rfl)
theorem r1_eq (K : List Item) (s : St) : den prog ann 17 (.code r1 :: K) s = mreg prog ann 17 none [] none [] [
    ⟨some 9, none, .v fun s => some (s.get 0)⟩,
    ⟨some 10, none, .v fun s => binA prog .lss 3 (s.get 9) (.int .i64 2)⟩,
    ⟨some 11, none, .v fun s => some (s.get 10)⟩,
    ⟨some 12, some (11, false), .v fun s => some (s.get 0)⟩,
    ⟨some 13, some (11, false), .v fun s => binA prog .gtr 3 (s.get 12) (.int .i64 31)⟩,
    ⟨some 14, none, .v fun s => pickA (s.get 11) (.bool true) (s.get 13)⟩,
    ⟨some 15, none, .v fun s => some (s.get 14)⟩,
    ⟨some 16, some (15, false), .v fun s => some (s.get 1)⟩,
    ⟨some 17, some (15, false), .v fun s => binA prog .lss 3 (s.get 16) (.int .i64 2)⟩,
    ⟨some 18, none, .v fun s => pickA (s.get 15) (.bool true) (s.get 17)⟩,
    ⟨some 19, none, .v fun s => some (s.get 18)⟩,
    ⟨some 20, some (19, false), .v fun s => some (s.get 1)⟩,
    ⟨some 21, some (19, false), .v fun s => some (s.get 0)⟩,
    ⟨some 22, some (19, false), .v fun s => binA prog .sub 3 (s.get 21) (.int .i64 1)⟩,
    ⟨some 23, some (19, false), .v fun s => foldA min2A (.int .i64 6) [(s.get 22)]⟩,
    ⟨some 24, some (19, false), .v fun s => binA prog .gtr 3 (s.get 20) (s.get 23)⟩,
    ⟨some 25, none, .v fun s => pickA (s.get 19) (.bool true) (s.get 24)⟩,
    ⟨some 26, none, .v fun s => some (s.get 25)⟩,
    ⟨some 27, some (26, false), .v fun s => some (s.get 2)⟩,
    ⟨some 28, some (26, false), .v fun s => binA prog .lss 3 (s.get 27) (.int .i64 1)⟩,
    ⟨some 29, none, .v fun s => pickA (s.get 26) (.bool true) (s.get 28)⟩,
    ⟨some 30, none, .v fun s => some (s.get 29)⟩,
    ⟨some 31, some (30, false), .v fun s => some (s.get 2)⟩,
    ⟨some 32, some (30, false), .v fun s => some (s.get 0)⟩,
    ⟨some 33, some (30, false), .v fun s => binA prog .gtr 3 (s.get 31) (s.get 32)⟩,
    ⟨some 34, none, .v fun s => pickA (s.get 30) (.bool true) (s.get 33)⟩] K s := (den_reg hf _ K s).trans (by kernel_rfl)
theorem i0_eq (K : List Item) (s : St) : den prog ann 17 (.code i0 :: K) s = ifV prog ann 17 34 i0t i0e K s (s.get 34) := den_if hf (by kernel_rfl) K s
theorem i0t_eq (K : List Item) (s : St) : den prog ann 17 (.code i0t :: K) s = den prog ann 17 (.code r2 :: .code .ret :: K) s := den_flat hf (l := [r2, .ret]) (by kernel_rfl) K s
theorem r2_eq (K : List Item) (s : St) : den prog ann 17 (.code r2 :: K) s = mreg prog ann 17 none [] none [] [
    ⟨some 6, none, .v fun s => some (.nils)⟩,
    ⟨some 7, none, .v fun s => some (.int .i64 1)⟩] K s := (den_reg hf _ K s).trans (by kernel_rfl)
theorem i0e_eq (K : List Item) (s : St) : den prog ann 17 (.code i0e :: K) s = den prog ann 17 (K) s := den_flat hf (l := []) (by kernel_rfl) K s
theorem r3_eq (K : List Item) (s : St) : den prog ann 17 (.code r3 :: K) s = mreg prog ann 17 none [] none [] [
    ⟨some 35, none, .v fun s => some (s.get 0)⟩,
    ⟨some 36, none, .v fun s => some (s.get 1)⟩,
    ⟨some 37, none, .v fun s => some (s.get 2)⟩,
    ⟨some 38, none, .c 0 (fun s => (.fn 46 [] [])) fun s => [(s.get 35), (s.get 36), (s.get 37)]⟩,
    ⟨some 8, none, .v fun s => some (s.get 38)⟩] K s := (den_reg hf _ K s).trans (by kernel_rfl)
theorem r4_eq (K : List Item) (s : St) : den prog ann 17 (.code r4 :: K) s = mreg prog ann 17 none [] none [] [
    ⟨some 39, none, .v fun s => some (s.get 8)⟩,
    ⟨some 40, none, .v fun s => binA prog .eql 22 (s.get 39) (.nils)⟩] K s := (den_reg hf _ K s).trans (by kernel_rfl)
theorem i1_eq (K : List Item) (s : St) : den prog ann 17 (.code i1 :: K) s = ifV prog ann 17 40 i1t i1e K s (s.get 40) := den_if hf (by kernel_rfl) K s
theorem i1t_eq (K : List Item) (s : St) : den prog ann 17 (.code i1t :: K) s = den prog ann 17 (.code r5 :: .code .ret :: K) s := den_flat hf (l := [r5, .ret]) (by kernel_rfl) K s
theorem r5_eq (K : List Item) (s : St) : den prog ann 17 (.code r5 :: K) s = mreg prog ann 17 none [] none [] [
    ⟨some 6, none, .v fun s => some (.nils)⟩,
    ⟨some 7, none, .v fun s => some (.int .i64 5)⟩] K s := (den_reg hf _ K s).trans (by kernel_rfl)
theorem i1e_eq (K : List Item) (s : St) : den prog ann 17 (.code i1e :: K) s = den prog ann 17 (K) s := den_flat hf (l := []) (by kernel_rfl) K s
theorem r6_eq (K : List Item) (s : St) : den prog ann 17 (.code r6 :: K) s = mreg prog ann 17 none [] none [] [
    ⟨some 41, none, .v fun s => some (s.get 8)⟩,
    ⟨some 6, none, .v fun s => some (s.get 41)⟩,
    ⟨some 7, none, .v fun s => some (.int .i64 0)⟩] K s := (den_reg hf _ K s).trans (by kernel_rfl)
theorem ret_eq (K : List Item) (s : St) : den prog ann 17 (.code .ret :: K) s = finM true [fun s => some (s.get 6), fun s => some (s.get 7)] s := (den_ret hf K s).trans (by kernel_rfl)
theorem nil_eq (s : St) : den prog ann 17 [] s = finM true [fun s => some (s.get 6), fun s => some (s.get 7)] s := (den_nil hf s).trans (by kernel_rfl)
theorem inBlock_eq (id : Nat) (K : List Item) (s : St) : den prog ann 17 (.inBlock id :: K) s = den prog ann 17 K s := den_inBlock hf id K s
theorem exit_eq (id : Nat) (K : List Item) (s : St) : den prog ann 17 (.code (.exit id) :: K) s = exitV prog ann 17 (exitTo id K) s := den_exitV hf id K s
theorem call_eq (v0 v1 v2 : AV) (m : Mem) (h : closedL [v0, v1, v2] = true) : denC prog ann 17 [v0, v1, v2] m = (den prog ann 17 [.code b] ⟨[(0, v0), (1, v1), (2, v2)], 42, Mem.empty⟩).bind fun r => some (r.1, m) := (denC_pure hf (b := b) (by kernel_rfl) (by kernel_rfl) (by kernel_rfl) h m).trans (by kernel_rfl)
theorem pure_eq : (ann 17).pure = true := by kernel_rfl
attribute [simp] b_eq r0_eq r1_eq i0_eq i0t_eq r2_eq i0e_eq r3_eq r4_eq i1_eq i1t_eq r5_eq i1e_eq r6_eq ret_eq nil_eq inBlock_eq exit_eq pure_eq
end strap_Round

namespace strap_round
/-- pommel/strap.round -/
noncomputable def b : Code := (Try.f46.body).getD .skip
theorem hf : prog.funcs[46]? = some Try.f46 := by kernel_rfl
noncomputable def r0 : Code := findReg b 0
noncomputable def r1 : Code := findReg b 1
noncomputable def i0 : Code := findCond b 0
noncomputable def i0t : Code := thenOf i0
noncomputable def i0e : Code := elseOf i0
noncomputable def r2 : Code := findReg b 2
noncomputable def r3 : Code := findReg b 3
noncomputable def r4 : Code := findReg b 4
noncomputable def r5 : Code := findReg b 5
theorem b_eq (K : List Item) (s : St) : den prog ann 46 (.code b :: K) s = den prog ann 46 (.code r0 :: .code r1 :: .code i0 :: .code r3 :: .code r4 :: .code r5 :: .code .ret :: K) s := den_flat hf (l := [r0, r1, i0, r3, r4, r5, .ret]) (by kernel_rfl) K s
theorem r0_eq (K : List Item) (s : St) : den prog ann 46 (.code r0 :: K) s = mreg prog ann 46 none [] none [] [
    ⟨some 3, none, .v fun s => frozenPtr (s.get 0)⟩,
    ⟨some 5, none, .v fun s => frozenPtr (s.get 2)⟩,
    ⟨some 6, none, .v fun s => some (.nils)⟩] K s := (den_reg hf _ K s).trans (by kernel_rfl)
theorem r1_eq (K : List Item) (s : St) : den prog ann 46 (.code r1 :: K) s = mreg prog ann 46 none [] none [] [
    ⟨some 9, none, .v fun s => some (s.get 1)⟩,
    ⟨some 10, none, .v fun s => some (s.get 1)⟩,
    ⟨some 11, none, .v fun s => binA prog .sub 3 (s.get 10) (.int .i64 1)⟩,
    ⟨some 12, none, .v fun s => binA prog .mul 3 (s.get 9) (s.get 11)⟩,
    ⟨some 13, none, .v fun s => loadF false 1 (s.get 5)⟩,
    ⟨some 14, none, .v fun s => loadF false 1 (s.get 3)⟩,
    ⟨some 15, none, .v fun s => binA prog .sub 3 (s.get 14) (.int .i64 1)⟩,
    ⟨some 16, none, .v fun s => binA prog .mul 3 (s.get 13) (s.get 15)⟩,
    ⟨some 17, none, .v fun s => binA prog .neq 3 (s.get 12) (s.get 16)⟩] K s := (den_reg hf _ K s).trans (by kernel_rfl)
theorem i0_eq (K : List Item) (s : St) : den prog ann 46 (.code i0 :: K) s = ifV prog ann 46 17 i0t i0e K s (s.get 17) := den_if hf (by kernel_rfl) K s
theorem i0t_eq (K : List Item) (s : St) : den prog ann 46 (.code i0t :: K) s = den prog ann 46 (.code r2 :: .code .ret :: K) s := den_flat hf (l := [r2, .ret]) (by kernel_rfl) K s
theorem r2_eq (K : List Item) (s : St) : den prog ann 46 (.code r2 :: K) s = mreg prog ann 46 none [] none [] [
    ⟨some 6, none, .v fun s => some (.nils)⟩] K s := (den_reg hf _ K s).trans (by kernel_rfl)
theorem i0e_eq (K : List Item) (s : St) : den prog ann 46 (.code i0e :: K) s = den prog ann 46 (K) s := den_flat hf (l := []) (by kernel_rfl) K s
theorem r3_eq (K : List Item) (s : St) : den prog ann 46 (.code r3 :: K) s = mreg prog ann 46 none [] none [] [
    ⟨some 18, none, .v fun s => some (.fn 65 [] [(s.get 3), (s.get 5)])⟩,
    ⟨some 7, none, .v fun s => some (s.get 18)⟩] K s := (den_reg hf _ K s).trans (by kernel_rfl)
theorem r4_eq (K : List Item) (s : St) : den prog ann 46 (.code r4 :: K) s = mreg prog ann 46 none [] none [] [
    ⟨some 8, none, .v fun s => some (.fn 66 [] [])⟩] K s := (den_reg hf _ K s).trans (by kernel_rfl)
theorem r5_eq (K : List Item) (s : St) : den prog ann 46 (.code r5 :: K) s = mreg prog ann 46 none [] none [] [
    ⟨some 19, none, .v fun s => some (s.get 1)⟩,
    ⟨some 20, none, .v fun s => loadF false 1 (s.get 3)⟩,
    ⟨some 21, none, .v fun s => binA prog .sub 3 (s.get 20) (.int .i64 1)⟩,
    ⟨some 22, none, .v fun s => some (s.get 7)⟩,
    ⟨some 23, none, .v fun s => some (s.get 8)⟩,
    ⟨some 24, none, .v fun s => bldA (plc [(0, 1), (1, 1), (2, 1), (3, 1)]) [.int .i64 0, .int .i64 0, .nilf, .nilf] [(0, (s.get 19)), (1, (s.get 21)), (2, (s.get 22)), (3, (s.get 23))]⟩,
    ⟨some 25, none, .v fun s => bslF 1 (bslA 1 1 [.int .i64 0] [(0, (.int .i64 0))])⟩,
    ⟨some 26, none, .c 2 (fun s => (.fn 43 [] [])) fun s => [(s.get 24), (s.get 25)]⟩,
    ⟨some 6, none, .v fun s => some (s.get 26)⟩] K s := (den_reg hf _ K s).trans (by kernel_rfl)
theorem ret_eq (K : List Item) (s : St) : den prog ann 46 (.code .ret :: K) s = finM true [fun s => some (s.get 6)] s := (den_ret hf K s).trans (by kernel_rfl)
theorem nil_eq (s : St) : den prog ann 46 [] s = finM true [fun s => some (s.get 6)] s := (den_nil hf s).trans (by kernel_rfl)
theorem inBlock_eq (id : Nat) (K : List Item) (s : St) : den prog ann 46 (.inBlock id :: K) s = den prog ann 46 K s := den_inBlock hf id K s
theorem exit_eq (id : Nat) (K : List Item) (s : St) : den prog ann 46 (.code (.exit id) :: K) s = exitV prog ann 46 (exitTo id K) s := den_exitV hf id K s
theorem call_eq (v0 v1 v2 : AV) (m : Mem) (h : closedL [v0, v1, v2] = true) : denC prog ann 46 [v0, v1, v2] m = (den prog ann 46 [.code b] ⟨[(0, v0), (1, v1), (2, v2)], 27, Mem.empty⟩).bind fun r => some (r.1, m) := (denC_pure hf (b := b) (by kernel_rfl) (by kernel_rfl) (by kernel_rfl) h m).trans (by kernel_rfl)
theorem pure_eq : (ann 46).pure = true := by kernel_rfl
attribute [simp] b_eq r0_eq r1_eq i0_eq i0t_eq r2_eq i0e_eq r3_eq r4_eq r5_eq ret_eq nil_eq inBlock_eq exit_eq pure_eq
end strap_round

namespace strap_round_1
/-- pommel/strap.round$1 -/
noncomputable def b : Code := (Try.f65.body).getD .skip
theorem hf : prog.funcs[65]? = some Try.f65 := by kernel_rfl
noncomputable def r0 : Code := findReg b 0
noncomputable def r1 : Code := findReg b 1
theorem b_eq (K : List Item) (s : St) : den prog ann 65 (.code b :: K) s = den prog ann 65 (.code r0 :: .code r1 :: .code .ret :: K) s := den_flat hf (l := [r0, r1, .ret]) (by kernel_rfl) K s
theorem r0_eq (K : List Item) (s : St) : den prog ann 65 (.code r0 :: K) s = mreg prog ann 65 none [] none [] [
    ⟨some 4, none, .v fun s => some (.bool false)⟩] K s := (den_reg hf _ K s).trans (by kernel_rfl)
theorem r1_draw : drawOk (fun g => (ann g).pure) (modeOf (ann 65) (idOf r1)) (frzOf (ann 65) (idOf r1)) (opsOf r1) = true := drawOk_of (an := [0, 0, 3, 7, 0, 31, 63]) (by kernel_rfl) (by kernel_rfl)
theorem r1_eq (K : List Item) (s : St) : den prog ann 65 (.code r1 :: K) s = mreg prog ann 65 none [] (some 7) [] [
    ⟨some 5, none, .v fun s => loadA false 1 s.m (s.get 1)⟩,
    ⟨some 6, none, .v fun s => some (s.get 0)⟩,
    ⟨some 7, none, .c 0 (fun s => (.fn 56 [] [])) fun s => [(s.get 5), (s.get 6)]⟩,
    ⟨some 8, none, .c 0 (fun s => (.fn 58 [] [])) fun s => [(s.get 7)]⟩,
    ⟨some 9, none, .v fun s => loadA false 1 s.m (s.get 2)⟩,
    ⟨some 10, none, .v fun s => binA prog .leq 3 (s.get 8) (s.get 9)⟩,
    ⟨some 4, none, .v fun s => some (s.get 10)⟩] K s := (den_regD hf r1_draw K s).trans (by kernel_rfl)
theorem ret_eq (K : List Item) (s : St) : den prog ann 65 (.code .ret :: K) s = finM false [fun s => some (s.get 4)] s := (den_ret hf K s).trans (by kernel_rfl)
theorem nil_eq (s : St) : den prog ann 65 [] s = finM false [fun s => some (s.get 4)] s := (den_nil hf s).trans (by kernel_rfl)
theorem inBlock_eq (id : Nat) (K : List Item) (s : St) : den prog ann 65 (.inBlock id :: K) s = den prog ann 65 K s := den_inBlock hf id K s
theorem exit_eq (id : Nat) (K : List Item) (s : St) : den prog ann 65 (.code (.exit id) :: K) s = exitV prog ann 65 (exitTo id K) s := den_exitV hf id K s
theorem call_eq (v0 v1 v2 : AV) (m : Mem) : denC prog ann 65 [v0, v1, v2] m = den prog ann 65 [.code b] ⟨[(0, v0), (1, v1), (2, v2)], 11, m⟩ := (denC_impure hf (b := b) (by kernel_rfl) (by kernel_rfl) (by kernel_rfl) m).trans (by kernel_rfl)
theorem pure_eq : (ann 65).pure = false := by kernel_rfl
attribute [simp] b_eq r0_eq r1_eq ret_eq nil_eq inBlock_eq exit_eq pure_eq
end strap_round_1

namespace strap_round_2
/-- pommel/strap.round$2 -/
noncomputable def b : Code := (Try.f66.body).getD .skip
theorem hf : prog.funcs[66]? = some Try.f66 := by kernel_rfl
noncomputable def r0 : Code := findReg b 0
noncomputable def r1 : Code := findReg b 1
theorem b_eq (K : List Item) (s : St) : den prog ann 66 (.code b :: K) s = den prog ann 66 (.code r0 :: .code r1 :: .code .ret :: K) s := den_flat hf (l := [r0, r1, .ret]) (by kernel_rfl) K s
theorem r0_eq (K : List Item) (s : St) : den prog ann 66 (.code r0 :: K) s = mreg prog ann 66 none [] none [] [
    ⟨some 2, none, .v fun s => some (.bool false)⟩] K s := (den_reg hf _ K s).trans (by kernel_rfl)
theorem r1_eq (K : List Item) (s : St) : den prog ann 66 (.code r1 :: K) s = mreg prog ann 66 none [] none [] [
    ⟨some 2, none, .v fun s => some (.bool true)⟩] K s := (den_reg hf _ K s).trans (by kernel_rfl)
theorem ret_eq (K : List Item) (s : St) : den prog ann 66 (.code .ret :: K) s = finM true [fun s => some (s.get 2)] s := (den_ret hf K s).trans (by kernel_rfl)
theorem nil_eq (s : St) : den prog ann 66 [] s = finM true [fun s => some (s.get 2)] s := (den_nil hf s).trans (by kernel_rfl)
theorem inBlock_eq (id : Nat) (K : List Item) (s : St) : den prog ann 66 (.inBlock id :: K) s = den prog ann 66 K s := den_inBlock hf id K s
theorem exit_eq (id : Nat) (K : List Item) (s : St) : den prog ann 66 (.code (.exit id) :: K) s = exitV prog ann 66 (exitTo id K) s := den_exitV hf id K s
theorem call_eq (v0 : AV) (m : Mem) (h : closedL [v0] = true) : denC prog ann 66 [v0] m = (den prog ann 66 [.code b] ⟨[(0, v0)], 3, Mem.empty⟩).bind fun r => some (r.1, m) := (denC_pure hf (b := b) (by kernel_rfl) (by kernel_rfl) (by kernel_rfl) h m).trans (by kernel_rfl)
theorem pure_eq : (ann 66).pure = true := by kernel_rfl
attribute [simp] b_eq r0_eq r1_eq ret_eq nil_eq inBlock_eq exit_eq pure_eq
end strap_round_2


namespace r04_Even
/-- pommel/pommelref04.Even -/
noncomputable def b : Code := (Try.f33.body).getD .skip
theorem hf : prog.funcs[33]? = some Try.f33 := by kernel_rfl
noncomputable def r0 : Code := findReg b 0
noncomputable def r1 : Code := findReg b 1
noncomputable def r2 : Code := findReg b 2
noncomputable def k0 : Code := findBlk b 0
noncomputable def l0 : Code := loopOf k0
noncomputable def L0 (x0 x1 x6 x7 : AV) (m : Mem) (K : List Item) : Option Res := den prog ann 33 (.code l0 :: .inLoop l0 :: .inBlock 0 :: K) ⟨[(0, x0), (1, x1), (6, x6), (7, x7)], 61, m⟩
noncomputable def r3 : Code := findReg b 3
noncomputable def i0 : Code := findCond b 0
noncomputable def i0t : Code := thenOf i0
noncomputable def i0e : Code := elseOf i0
noncomputable def k1 : Code := findBlk b 1
noncomputable def r5 : Code := findReg b 5
noncomputable def k2 : Code := findBlk b 2
noncomputable def l2 : Code := loopOf k2
noncomputable def L2 (x0 x1 x6 x7 x8 : AV) (m : Mem) (K : List Item) : Option Res := den prog ann 33 (.code l2 :: .inLoop l2 :: .inBlock 2 :: K) ⟨[(0, x0), (1, x1), (6, x6), (7, x7), (8, x8)], 61, m⟩
noncomputable def r6 : Code := findReg b 6
noncomputable def i1 : Code := findCond b 1
noncomputable def i1t : Code := thenOf i1
noncomputable def i1e : Code := elseOf i1
noncomputable def k3 : Code := findBlk b 3
noncomputable def r8 : Code := findReg b 8
noncomputable def i2 : Code := findCond b 2
noncomputable def i2t : Code := thenOf i2
noncomputable def i2e : Code := elseOf i2
noncomputable def r9 : Code := findReg b 9
noncomputable def r7 : Code := findReg b 7
noncomputable def r4 : Code := findReg b 4
noncomputable def r10 : Code := findReg b 10
noncomputable def k4 : Code := findBlk b 4
noncomputable def l4 : Code := loopOf k4
noncomputable def L4 (x0 x6 x9 : AV) (m : Mem) (K : List Item) : Option Res := den prog ann 33 (.code l4 :: .inLoop l4 :: .inBlock 4 :: K) ⟨[(0, x0), (6, x6), (9, x9)], 61, m⟩
noncomputable def r11 : Code := findReg b 11
noncomputable def i3 : Code := findCond b 3
noncomputable def i3t : Code := thenOf i3
noncomputable def i3e : Code := elseOf i3
noncomputable def k5 : Code := findBlk b 5
noncomputable def r13 : Code := findReg b 13
noncomputable def i4 : Code := findCond b 4
noncomputable def i4t : Code := thenOf i4
noncomputable def i4e : Code := elseOf i4
noncomputable def r14 : Code := findReg b 14
noncomputable def r12 : Code := findReg b 12
noncomputable def r15 : Code := findReg b 15
theorem b_eq (K : List Item) (s : St) : den prog ann 33 (.code b :: K) s = den prog ann 33 (.code r0 :: .code r1 :: .code r2 :: .code k0 :: .code r10 :: .code k4 :: .code r15 :: .code .ret :: K) s := den_flat hf (l := [r0, r1, r2, k0, r10, k4, r15, .ret]) (by kernel_rfl) K s
theorem r0_eq (K : List Item) (s : St) : den prog ann 33 (.code r0 :: K) s = mreg prog ann 33 none [] none [] [
    ⟨some 4, none, .v fun s => some (.int .i64 0)⟩,
    ⟨some 5, none, .v fun s => some (.bool false)⟩] K s := (den_reg hf _ K s).trans (by kernel_rfl)
theorem r1_eq (K : List Item) (s : St) : den prog ann 33 (.code r1 :: K) s = mreg prog ann 33 none [] none [] [
    ⟨some 10, none, .v fun s => some (s.get 0)⟩,
    ⟨some 11, none, .w false none fun s => makeA 1 8 (.int .i64 0) s.m (s.get 10) (s.get 10)⟩,
    ⟨some 6, none, .v fun s => some (s.get 11)⟩] K s := (den_reg hf _ K s).trans (by kernel_rfl)
theorem r2_eq (K : List Item) (s : St) : den prog ann 33 (.code r2 :: K) s = mreg prog ann 33 none [] none [] [
    ⟨some 7, none, .v fun s => some (.int .i64 0)⟩] K s := (den_reg hf _ K s).trans (by kernel_rfl)
theorem k0_eq (K : List Item) (t : List (Nat × AV)) (m : Mem) : den prog ann 33 (.code k0 :: K) ⟨t, 61, m⟩ = L0 (get t 0) (get t 1) (get t 6) (get t 7) m K := den_loop_enter hf (b := l0) (id := 3) (l := [0, 1, 6, 7]) (by kernel_rfl) (by kernel_rfl) (by kernel_rfl) K _
theorem l0_eq (K : List Item) (t : List (Nat × AV)) (m : Mem) : den prog ann 33 (.inLoop l0 :: .inBlock 0 :: K) ⟨t, 61, m⟩ = L0 (get t 0) (get t 1) (get t 6) (get t 7) m K := den_loop_again hf (id := 3) (l := [0, 1, 6, 7]) (by kernel_rfl) (by kernel_rfl) (.inBlock 0 :: K) _
theorem L0_eq (x0 x1 x6 x7 : AV) (m : Mem) (K : List Item) : L0 x0 x1 x6 x7 m K = den prog ann 33 (.code r3 :: .code i0 :: .code k1 :: .code r4 :: .inLoop l0 :: .inBlock 0 :: K) ⟨[(0, x0), (1, x1), (6, x6), (7, x7)], 61, m⟩ := den_flat hf (l := [r3, i0, k1, r4]) (by kernel_rfl) _ _
theorem r3_eq (K : List Item) (s : St) : den prog ann 33 (.code r3 :: K) s = mreg prog ann 33 (some [0, 1, 6, 7]) [] none [] [
    ⟨some 12, none, .v fun s => some (s.get 7)⟩,
    ⟨some 13, none, .v fun s => some (s.get 1)⟩,
    ⟨some 14, none, .v fun s => lenSl (s.get 13)⟩,
    ⟨some 15, none, .v fun s => binA prog .lss 3 (s.get 12) (s.get 14)⟩] K s := (den_reg hf _ K s).trans (by kernel_rfl)
theorem i0_eq (K : List Item) (s : St) : den prog ann 33 (.code i0 :: K) s = ifV prog ann 33 15 i0t i0e K s (s.get 15) := den_if hf (by kernel_rfl) K s
theorem i0t_eq (K : List Item) (s : St) : den prog ann 33 (.code i0t :: K) s = den prog ann 33 (K) s := den_flat hf (l := []) (by kernel_rfl) K s
theorem i0e_eq (K : List Item) (s : St) : den prog ann 33 (.code i0e :: K) s = den prog ann 33 (.code (.exit 0) :: K) s := den_flat hf (l := [(.exit 0)]) (by kernel_rfl) K s
theorem k1_eq (K : List Item) (s : St) : den prog ann 33 (.code k1 :: K) s = den prog ann 33 (.code r5 :: .code k2 :: .inBlock 1 :: K) s := den_blk hf (b := blkOf k1) (l := [r5, k2]) (by kernel_rfl) (by kernel_rfl) K s
theorem r5_eq (K : List Item) (s : St) : den prog ann 33 (.code r5 :: K) s = mreg prog ann 33 none [] none [] [
    ⟨some 8, none, .v fun s => some (.int .i64 0)⟩] K s := (den_reg hf _ K s).trans (by kernel_rfl)
theorem k2_eq (K : List Item) (t : List (Nat × AV)) (m : Mem) : den prog ann 33 (.code k2 :: K) ⟨t, 61, m⟩ = L2 (get t 0) (get t 1) (get t 6) (get t 7) (get t 8) m K := den_loop_enter hf (b := l2) (id := 6) (l := [0, 1, 6, 7, 8]) (by kernel_rfl) (by kernel_rfl) (by kernel_rfl) K _
theorem l2_eq (K : List Item) (t : List (Nat × AV)) (m : Mem) : den prog ann 33 (.inLoop l2 :: .inBlock 2 :: K) ⟨t, 61, m⟩ = L2 (get t 0) (get t 1) (get t 6) (get t 7) (get t 8) m K := den_loop_again hf (id := 6) (l := [0, 1, 6, 7, 8]) (by kernel_rfl) (by kernel_rfl) (.inBlock 2 :: K) _
theorem L2_eq (x0 x1 x6 x7 x8 : AV) (m : Mem) (K : List Item) : L2 x0 x1 x6 x7 x8 m K = den prog ann 33 (.code r6 :: .code i1 :: .code k3 :: .code r7 :: .inLoop l2 :: .inBlock 2 :: K) ⟨[(0, x0), (1, x1), (6, x6), (7, x7), (8, x8)], 61, m⟩ := den_flat hf (l := [r6, i1, k3, r7]) (by kernel_rfl) _ _
theorem r6_eq (K : List Item) (s : St) : den prog ann 33 (.code r6 :: K) s = mreg prog ann 33 (some [0, 1, 6, 7, 8]) [] none [] [
    ⟨some 18, none, .v fun s => some (s.get 8)⟩,
    ⟨some 19, none, .v fun s => some (s.get 1)⟩,
    ⟨some 20, none, .v fun s => lenSl (s.get 19)⟩,
    ⟨some 21, none, .v fun s => binA prog .lss 3 (s.get 18) (s.get 20)⟩] K s := (den_reg hf _ K s).trans (by kernel_rfl)
theorem i1_eq (K : List Item) (s : St) : den prog ann 33 (.code i1 :: K) s = ifV prog ann 33 21 i1t i1e K s (s.get 21) := den_if hf (by kernel_rfl) K s
theorem i1t_eq (K : List Item) (s : St) : den prog ann 33 (.code i1t :: K) s = den prog ann 33 (K) s := den_flat hf (l := []) (by kernel_rfl) K s
theorem i1e_eq (K : List Item) (s : St) : den prog ann 33 (.code i1e :: K) s = den prog ann 33 (.code (.exit 2) :: K) s := den_flat hf (l := [(.exit 2)]) (by kernel_rfl) K s
theorem k3_eq (K : List Item) (s : St) : den prog ann 33 (.code k3 :: K) s = den prog ann 33 (.code r8 :: .code i2 :: .inBlock 3 :: K) s := den_blk hf (b := blkOf k3) (l := [r8, i2]) (by kernel_rfl) (by kernel_rfl) K s
theorem r8_eq (K : List Item) (s : St) : den prog ann 33 (.code r8 :: K) s = mreg prog ann 33 none [] none [] [
    ⟨some 24, none, .v fun s => some (s.get 7)⟩,
    ⟨some 25, none, .v fun s => some (s.get 8)⟩,
    ⟨some 26, none, .v fun s => binA prog .neq 3 (s.get 24) (s.get 25)⟩] K s := (den_reg hf _ K s).trans (by kernel_rfl)
theorem i2_eq (K : List Item) (s : St) : den prog ann 33 (.code i2 :: K) s = ifV prog ann 33 26 i2t i2e K s (s.get 26) := den_if hf (by kernel_rfl) K s
theorem i2t_eq (K : List Item) (s : St) : den prog ann 33 (.code i2t :: K) s = den prog ann 33 (.code r9 :: K) s := den_flat hf (l := [r9]) (by kernel_rfl) K s
theorem r9_draw : drawOk (fun g => (ann g).pure) (modeOf (ann 33) (idOf r9)) (frzOf (ann 33) (idOf r9)) (opsOf r9) = true := drawOk_of (an := [0, 0, 0, 6, 14, 0, 0, 96, 224, 510, 0, 2046, 0, 8190, 16383, 32767, 65535, 131071, 262143]) (by kernel_rfl) (by kernel_rfl)
theorem r9_eq (K : List Item) (s : St) : den prog ann 33 (.code r9 :: K) s = mreg prog ann 33 none [] (some 19) [] [
    ⟨some 27, none, .v fun s => some (s.get 6)⟩,
    ⟨some 28, none, .v fun s => some (s.get 1)⟩,
    ⟨some 29, none, .v fun s => some (s.get 7)⟩,
    ⟨some 30, none, .v fun s => idxSl 1 (s.get 28) (s.get 29)⟩,
    ⟨some 31, none, .v fun s => loadF false 1 (s.get 30)⟩,
    ⟨some 32, none, .v fun s => some (s.get 1)⟩,
    ⟨some 33, none, .v fun s => some (s.get 8)⟩,
    ⟨some 34, none, .v fun s => idxSl 1 (s.get 32) (s.get 33)⟩,
    ⟨some 35, none, .v fun s => loadF false 1 (s.get 34)⟩,
    ⟨some 36, none, .v fun s => binA prog .sub 3 (s.get 31) (s.get 35)⟩,
    ⟨some 37, none, .v fun s => some (s.get 0)⟩,
    ⟨some 38, none, .v fun s => binA prog .add 3 (s.get 36) (s.get 37)⟩,
    ⟨some 39, none, .v fun s => some (s.get 0)⟩,
    ⟨some 40, none, .v fun s => binA prog .rem 3 (s.get 38) (s.get 39)⟩,
    ⟨some 41, none, .v fun s => idxSl 1 (s.get 27) (s.get 40)⟩,
    ⟨some 42, none, .v fun s => loadA false 1 s.m (s.get 41)⟩,
    ⟨some 43, none, .v fun s => binA prog .add 3 (s.get 42) (.int .i64 1)⟩,
    ⟨some 44, none, .v fun s => idxSl 1 (s.get 27) (s.get 40)⟩,
    ⟨none, none, .w false (some 18) fun s => stA false 1 s.m (s.get 44) (s.get 43)⟩] K s := (den_regD hf r9_draw K s).trans (by kernel_rfl)
theorem i2e_eq (K : List Item) (s : St) : den prog ann 33 (.code i2e :: K) s = den prog ann 33 (K) s := den_flat hf (l := []) (by kernel_rfl) K s
theorem r7_eq (K : List Item) (s : St) : den prog ann 33 (.code r7 :: K) s = mreg prog ann 33 (some [0, 1, 6, 7, 8]) [] none [] [
    ⟨some 22, none, .v fun s => some (s.get 8)⟩,
    ⟨some 23, none, .v fun s => binA prog .add 3 (s.get 22) (.int .i64 1)⟩,
    ⟨some 8, none, .v fun s => some (s.get 23)⟩] K s := (den_reg hf _ K s).trans (by kernel_rfl)
theorem r4_eq (K : List Item) (s : St) : den prog ann 33 (.code r4 :: K) s = mreg prog ann 33 (some [0, 1, 6, 7]) [] none [] [
    ⟨some 16, none, .v fun s => some (s.get 7)⟩,
    ⟨some 17, none, .v fun s => binA prog .add 3 (s.get 16) (.int .i64 1)⟩,
    ⟨some 7, none, .v fun s => some (s.get 17)⟩] K s := (den_reg hf _ K s).trans (by kernel_rfl)
theorem r10_eq (K : List Item) (s : St) : den prog ann 33 (.code r10 :: K) s = mreg prog ann 33 (some [0, 6]) [] none [] [
    ⟨some 9, none, .v fun s => some (.int .i64 1)⟩] K s := (den_reg hf _ K s).trans (by kernel_rfl)
theorem k4_eq (K : List Item) (t : List (Nat × AV)) (m : Mem) : den prog ann 33 (.code k4 :: K) ⟨t, 61, m⟩ = L4 (get t 0) (get t 6) (get t 9) m K := den_loop_enter hf (b := l4) (id := 11) (l := [0, 6, 9]) (by kernel_rfl) (by kernel_rfl) (by kernel_rfl) K _
theorem l4_eq (K : List Item) (t : List (Nat × AV)) (m : Mem) : den prog ann 33 (.inLoop l4 :: .inBlock 4 :: K) ⟨t, 61, m⟩ = L4 (get t 0) (get t 6) (get t 9) m K := den_loop_again hf (id := 11) (l := [0, 6, 9]) (by kernel_rfl) (by kernel_rfl) (.inBlock 4 :: K) _
theorem L4_eq (x0 x6 x9 : AV) (m : Mem) (K : List Item) : L4 x0 x6 x9 m K = den prog ann 33 (.code r11 :: .code i3 :: .code k5 :: .code r12 :: .inLoop l4 :: .inBlock 4 :: K) ⟨[(0, x0), (6, x6), (9, x9)], 61, m⟩ := den_flat hf (l := [r11, i3, k5, r12]) (by kernel_rfl) _ _
theorem r11_eq (K : List Item) (s : St) : den prog ann 33 (.code r11 :: K) s = mreg prog ann 33 (some [0, 6, 9]) [] none [] [
    ⟨some 45, none, .v fun s => some (s.get 9)⟩,
    ⟨some 46, none, .v fun s => some (s.get 0)⟩,
    ⟨some 47, none, .v fun s => binA prog .lss 3 (s.get 45) (s.get 46)⟩] K s := (den_reg hf _ K s).trans (by kernel_rfl)
theorem i3_eq (K : List Item) (s : St) : den prog ann 33 (.code i3 :: K) s = ifV prog ann 33 47 i3t i3e K s (s.get 47) := den_if hf (by kernel_rfl) K s
theorem i3t_eq (K : List Item) (s : St) : den prog ann 33 (.code i3t :: K) s = den prog ann 33 (K) s := den_flat hf (l := []) (by kernel_rfl) K s
theorem i3e_eq (K : List Item) (s : St) : den prog ann 33 (.code i3e :: K) s = den prog ann 33 (.code (.exit 4) :: K) s := den_flat hf (l := [(.exit 4)]) (by kernel_rfl) K s
theorem k5_eq (K : List Item) (s : St) : den prog ann 33 (.code k5 :: K) s = den prog ann 33 (.code r13 :: .code i4 :: .inBlock 5 :: K) s := den_blk hf (b := blkOf k5) (l := [r13, i4]) (by kernel_rfl) (by kernel_rfl) K s
theorem r13_draw : drawOk (fun g => (ann g).pure) (modeOf (ann 33) (idOf r13)) (frzOf (ann 33) (idOf r13)) (opsOf r13) = true := drawOk_of (an := [0, 0, 3, 7, 0, 16, 48, 127]) (by kernel_rfl) (by kernel_rfl)
theorem r13_eq (K : List Item) (s : St) : den prog ann 33 (.code r13 :: K) s = mreg prog ann 33 none [] (some 8) [] [
    ⟨some 50, none, .v fun s => some (s.get 6)⟩,
    ⟨some 51, none, .v fun s => some (s.get 9)⟩,
    ⟨some 52, none, .v fun s => idxSl 1 (s.get 50) (s.get 51)⟩,
    ⟨some 53, none, .v fun s => loadA false 1 s.m (s.get 52)⟩,
    ⟨some 54, none, .v fun s => some (s.get 6)⟩,
    ⟨some 55, none, .v fun s => idxSl 1 (s.get 54) (.int .i64 1)⟩,
    ⟨some 56, none, .v fun s => loadA false 1 s.m (s.get 55)⟩,
    ⟨some 57, none, .v fun s => binA prog .neq 3 (s.get 53) (s.get 56)⟩] K s := (den_regD hf r13_draw K s).trans (by kernel_rfl)
theorem i4_eq (K : List Item) (s : St) : den prog ann 33 (.code i4 :: K) s = ifV prog ann 33 57 i4t i4e K s (s.get 57) := den_if hf (by kernel_rfl) K s
theorem i4t_eq (K : List Item) (s : St) : den prog ann 33 (.code i4t :: K) s = den prog ann 33 (.code r14 :: .code .ret :: K) s := den_flat hf (l := [r14, .ret]) (by kernel_rfl) K s
theorem r14_eq (K : List Item) (s : St) : den prog ann 33 (.code r14 :: K) s = mreg prog ann 33 none [] none [] [
    ⟨some 4, none, .v fun s => some (.int .i64 0)⟩,
    ⟨some 5, none, .v fun s => some (.bool false)⟩] K s := (den_reg hf _ K s).trans (by kernel_rfl)
theorem i4e_eq (K : List Item) (s : St) : den prog ann 33 (.code i4e :: K) s = den prog ann 33 (K) s := den_flat hf (l := []) (by kernel_rfl) K s
theorem r12_eq (K : List Item) (s : St) : den prog ann 33 (.code r12 :: K) s = mreg prog ann 33 (some [0, 6, 9]) [] none [] [
    ⟨some 48, none, .v fun s => some (s.get 9)⟩,
    ⟨some 49, none, .v fun s => binA prog .add 3 (s.get 48) (.int .i64 1)⟩,
    ⟨some 9, none, .v fun s => some (s.get 49)⟩] K s := (den_reg hf _ K s).trans (by kernel_rfl)
theorem r15_eq (K : List Item) (s : St) : den prog ann 33 (.code r15 :: K) s = mreg prog ann 33 (some [6]) [] none [] [
    ⟨some 58, none, .v fun s => some (s.get 6)⟩,
    ⟨some 59, none, .v fun s => idxSl 1 (s.get 58) (.int .i64 1)⟩,
    ⟨some 60, none, .v fun s => loadA false 1 s.m (s.get 59)⟩,
    ⟨some 4, none, .v fun s => some (s.get 60)⟩,
    ⟨some 5, none, .v fun s => some (.bool true)⟩] K s := (den_reg hf _ K s).trans (by kernel_rfl)
theorem ret_eq (K : List Item) (s : St) : den prog ann 33 (.code .ret :: K) s = finM true [fun s => some (s.get 4), fun s => some (s.get 5)] s := (den_ret hf K s).trans (by kernel_rfl)
theorem nil_eq (s : St) : den prog ann 33 [] s = finM true [fun s => some (s.get 4), fun s => some (s.get 5)] s := (den_nil hf s).trans (by kernel_rfl)
theorem inBlock_eq (id : Nat) (K : List Item) (s : St) : den prog ann 33 (.inBlock id :: K) s = den prog ann 33 K s := den_inBlock hf id K s
theorem exit_eq (id : Nat) (K : List Item) (s : St) : den prog ann 33 (.code (.exit id) :: K) s = exitV prog ann 33 (exitTo id K) s := den_exitV hf id K s
theorem call_eq (v0 v1 : AV) (m : Mem) (h : closedL [v0, v1] = true) : denC prog ann 33 [v0, v1] m = (den prog ann 33 [.code b] ⟨[(0, v0), (1, v1)], 61, Mem.empty⟩).bind fun r => some (r.1, m) := (denC_pure hf (b := b) (by kernel_rfl) (by kernel_rfl) (by kernel_rfl) h m).trans (by kernel_rfl)
theorem pure_eq : (ann 33).pure = true := by kernel_rfl
attribute [simp] b_eq r0_eq r1_eq r2_eq k0_eq l0_eq r3_eq i0_eq i0t_eq i0e_eq k1_eq r5_eq k2_eq l2_eq r6_eq i1_eq i1t_eq i1e_eq k3_eq r8_eq i2_eq i2t_eq r9_eq i2e_eq r7_eq r4_eq r10_eq k4_eq l4_eq r11_eq i3_eq i3t_eq i3e_eq k5_eq r13_eq i4_eq i4t_eq r14_eq i4e_eq r12_eq r15_eq ret_eq nil_eq inBlock_eq exit_eq pure_eq
end r04_Even



namespace strap_ring
/-- pommel/strap.ring -/
noncomputable def b : Code := (Try.f55.body).getD .skip
theorem hf : prog.funcs[55]? = some Try.f55 := by kernel_rfl
noncomputable def r0 : Code := findReg b 0
noncomputable def k0 : Code := findBlk b 0
noncomputable def r1 : Code := findReg b 1
noncomputable def i0 : Code := findCond b 0
noncomputable def i0t : Code := thenOf i0
noncomputable def i0e : Code := elseOf i0
noncomputable def r2 : Code := findReg b 2
noncomputable def r3 : Code := findReg b 3
noncomputable def i1 : Code := findCond b 1
noncomputable def i1t : Code := thenOf i1
noncomputable def i1e : Code := elseOf i1
noncomputable def r4 : Code := findReg b 4
noncomputable def r5 : Code := findReg b 5
noncomputable def i2 : Code := findCond b 2
noncomputable def i2t : Code := thenOf i2
noncomputable def i2e : Code := elseOf i2
noncomputable def r6 : Code := findReg b 6
noncomputable def r7 : Code := findReg b 7
noncomputable def k1 : Code := findBlk b 1
noncomputable def l1 : Code := loopOf k1
noncomputable def L1 (x0 x1 x22 x23 x24 : AV) (m : Mem) (K : List Item) : Option Res := den prog ann 55 (.code l1 :: .inLoop l1 :: .inBlock 1 :: K) ⟨[(0, x0), (1, x1), (22, x22), (23, x23), (24, x24)], 50, m⟩
noncomputable def r8 : Code := findReg b 8
noncomputable def i3 : Code := findCond b 3
noncomputable def i3t : Code := thenOf i3
noncomputable def i3e : Code := elseOf i3
noncomputable def k2 : Code := findBlk b 2
noncomputable def r9 : Code := findReg b 9
noncomputable def r10 : Code := findReg b 10
noncomputable def i4 : Code := findCond b 4
noncomputable def i4t : Code := thenOf i4
noncomputable def i4e : Code := elseOf i4
noncomputable def r11 : Code := findReg b 11
noncomputable def r12 : Code := findReg b 12
noncomputable def r13 : Code := findReg b 13
theorem b_eq (K : List Item) (s : St) : den prog ann 55 (.code b :: K) s = den prog ann 55 (.code r0 :: .code k0 :: .code r7 :: .code k1 :: .code r13 :: .code .ret :: K) s := den_flat hf (l := [r0, k0, r7, k1, r13, .ret]) (by kernel_rfl) K s
theorem r0_eq (K : List Item) (s : St) : den prog ann 55 (.code r0 :: K) s = mreg prog ann 55 none [] none [] [
    ⟨some 4, none, .v fun s => some (.int .i64 0)⟩] K s := (den_reg hf _ K s).trans (by kernel_rfl)
theorem k0_eq (K : List Item) (s : St) : den prog ann 55 (.code k0 :: K) s = den prog ann 55 (.code r1 :: .code i0 :: .inBlock 0 :: K) s := den_blk hf (b := blkOf k0) (l := [r1, i0]) (by kernel_rfl) (by kernel_rfl) K s
theorem r1_eq (K : List Item) (s : St) : den prog ann 55 (.code r1 :: K) s = mreg prog ann 55 none [] none [] [
    ⟨some 8, none, .v fun s => some (s.get 1)⟩,
    ⟨some 9, none, .v fun s => lenSl (s.get 8)⟩,
    ⟨some 10, none, .v fun s => binA prog .gtr 3 (s.get 9) (.int .i64 31)⟩,
    ⟨some 7, none, .v fun s => some (s.get 10)⟩] K s := (den_reg hf _ K s).trans (by kernel_rfl)
theorem i0_eq (K : List Item) (s : St) : den prog ann 55 (.code i0 :: K) s = ifV prog ann 55 7 i0t i0e K s (s.get 7) := den_if hf (by kernel_rfl) K s
theorem i0t_eq (K : List Item) (s : St) : den prog ann 55 (.code i0t :: K) s = den prog ann 55 (.code r2 :: .code .ret :: K) s := den_flat hf (l := [r2, .ret]) (by kernel_rfl) K s
theorem r2_eq (K : List Item) (s : St) : den prog ann 55 (.code r2 :: K) s = mreg prog ann 55 none [] none [] [
    ⟨some 4, none, .v fun s => some (.int .i64 3)⟩] K s := (den_reg hf _ K s).trans (by kernel_rfl)
theorem i0e_eq (K : List Item) (s : St) : den prog ann 55 (.code i0e :: K) s = den prog ann 55 (.code r3 :: .code i1 :: K) s := den_flat hf (l := [r3, i1]) (by kernel_rfl) K s
theorem r3_eq (K : List Item) (s : St) : den prog ann 55 (.code r3 :: K) s = mreg prog ann 55 none [] none [] [
    ⟨some 12, none, .v fun s => some (s.get 0)⟩,
    ⟨some 13, none, .v fun s => binA prog .lss 3 (s.get 12) (.int .i64 2)⟩,
    ⟨some 14, none, .v fun s => some (s.get 13)⟩,
    ⟨some 15, some (14, false), .v fun s => some (s.get 0)⟩,
    ⟨some 16, some (14, false), .v fun s => binA prog .gtr 3 (s.get 15) (.int .i64 31)⟩,
    ⟨some 17, none, .v fun s => pickA (s.get 14) (.bool true) (s.get 16)⟩,
    ⟨some 11, none, .v fun s => some (s.get 17)⟩] K s := (den_reg hf _ K s).trans (by kernel_rfl)
theorem i1_eq (K : List Item) (s : St) : den prog ann 55 (.code i1 :: K) s = ifV prog ann 55 11 i1t i1e K s (s.get 11) := den_if hf (by kernel_rfl) K s
theorem i1t_eq (K : List Item) (s : St) : den prog ann 55 (.code i1t :: K) s = den prog ann 55 (.code r4 :: .code .ret :: K) s := den_flat hf (l := [r4, .ret]) (by kernel_rfl) K s
theorem r4_eq (K : List Item) (s : St) : den prog ann 55 (.code r4 :: K) s = mreg prog ann 55 none [] none [] [
    ⟨some 4, none, .v fun s => some (.int .i64 1)⟩] K s := (den_reg hf _ K s).trans (by kernel_rfl)
theorem i1e_eq (K : List Item) (s : St) : den prog ann 55 (.code i1e :: K) s = den prog ann 55 (.code r5 :: .code i2 :: K) s := den_flat hf (l := [r5, i2]) (by kernel_rfl) K s
theorem r5_eq (K : List Item) (s : St) : den prog ann 55 (.code r5 :: K) s = mreg prog ann 55 none [] none [] [
    ⟨some 19, none, .v fun s => some (s.get 1)⟩,
    ⟨some 20, none, .v fun s => lenSl (s.get 19)⟩,
    ⟨some 21, none, .v fun s => binA prog .eql 3 (s.get 20) (.int .i64 0)⟩,
    ⟨some 18, none, .v fun s => some (s.get 21)⟩] K s := (den_reg hf _ K s).trans (by kernel_rfl)
theorem i2_eq (K : List Item) (s : St) : den prog ann 55 (.code i2 :: K) s = ifV prog ann 55 18 i2t i2e K s (s.get 18) := den_if hf (by kernel_rfl) K s
theorem i2t_eq (K : List Item) (s : St) : den prog ann 55 (.code i2t :: K) s = den prog ann 55 (.code r6 :: .code .ret :: K) s := den_flat hf (l := [r6, .ret]) (by kernel_rfl) K s
theorem r6_eq (K : List Item) (s : St) : den prog ann 55 (.code r6 :: K) s = mreg prog ann 55 none [] none [] [
    ⟨some 4, none, .v fun s => some (.int .i64 2)⟩] K s := (den_reg hf _ K s).trans (by kernel_rfl)
theorem i2e_eq (K : List Item) (s : St) : den prog ann 55 (.code i2e :: K) s = den prog ann 55 (K) s := den_flat hf (l := []) (by kernel_rfl) K s
theorem r7_eq (K : List Item) (s : St) : den prog ann 55 (.code r7 :: K) s = mreg prog ann 55 (some [0, 1]) [] none [] [
    ⟨some 22, none, .v fun s => some (s.get 1)⟩,
    ⟨some 23, none, .v fun s => lenSl (s.get 22)⟩,
    ⟨some 24, none, .v fun s => some (.int .i64 0)⟩] K s := (den_reg hf _ K s).trans (by kernel_rfl)
theorem k1_eq (K : List Item) (t : List (Nat × AV)) (m : Mem) : den prog ann 55 (.code k1 :: K) ⟨t, 50, m⟩ = L1 (get t 0) (get t 1) (get t 22) (get t 23) (get t 24) m K := den_loop_enter hf (b := l1) (id := 8) (l := [0, 1, 22, 23, 24]) (by kernel_rfl) (by kernel_rfl) (by kernel_rfl) K _
theorem l1_eq (K : List Item) (t : List (Nat × AV)) (m : Mem) : den prog ann 55 (.inLoop l1 :: .inBlock 1 :: K) ⟨t, 50, m⟩ = L1 (get t 0) (get t 1) (get t 22) (get t 23) (get t 24) m K := den_loop_again hf (id := 8) (l := [0, 1, 22, 23, 24]) (by kernel_rfl) (by kernel_rfl) (.inBlock 1 :: K) _
theorem L1_eq (x0 x1 x22 x23 x24 : AV) (m : Mem) (K : List Item) : L1 x0 x1 x22 x23 x24 m K = den prog ann 55 (.code r8 :: .code i3 :: .code k2 :: .code r12 :: .inLoop l1 :: .inBlock 1 :: K) ⟨[(0, x0), (1, x1), (22, x22), (23, x23), (24, x24)], 50, m⟩ := den_flat hf (l := [r8, i3, k2, r12]) (by kernel_rfl) _ _
theorem r8_eq (K : List Item) (s : St) : den prog ann 55 (.code r8 :: K) s = mreg prog ann 55 (some [0, 1, 22, 23, 24]) [] none [] [
    ⟨some 25, none, .v fun s => binA prog .lss 3 (s.get 24) (s.get 23)⟩] K s := (den_reg hf _ K s).trans (by kernel_rfl)
theorem i3_eq (K : List Item) (s : St) : den prog ann 55 (.code i3 :: K) s = ifV prog ann 55 25 i3t i3e K s (s.get 25) := den_if hf (by kernel_rfl) K s
theorem i3t_eq (K : List Item) (s : St) : den prog ann 55 (.code i3t :: K) s = den prog ann 55 (K) s := den_flat hf (l := []) (by kernel_rfl) K s
theorem i3e_eq (K : List Item) (s : St) : den prog ann 55 (.code i3e :: K) s = den prog ann 55 (.code (.exit 1) :: K) s := den_flat hf (l := [(.exit 1)]) (by kernel_rfl) K s
theorem k2_eq (K : List Item) (s : St) : den prog ann 55 (.code k2 :: K) s = den prog ann 55 (.code r9 :: .code r10 :: .code i4 :: .inBlock 2 :: K) s := den_blk hf (b := blkOf k2) (l := [r9, r10, i4]) (by kernel_rfl) (by kernel_rfl) K s
theorem r9_eq (K : List Item) (s : St) : den prog ann 55 (.code r9 :: K) s = mreg prog ann 55 none [] none [] [
    ⟨some 26, none, .v fun s => some (s.get 24)⟩,
    ⟨some 27, none, .v fun s => idxSl 1 (s.get 22) (s.get 24)⟩,
    ⟨some 28, none, .v fun s => loadF false 1 (s.get 27)⟩,
    ⟨some 5, none, .v fun s => some (s.get 26)⟩,
    ⟨some 6, none, .v fun s => some (s.get 28)⟩] K s := (den_reg hf _ K s).trans (by kernel_rfl)
theorem r10_eq (K : List Item) (s : St) : den prog ann 55 (.code r10 :: K) s = mreg prog ann 55 none [] none [] [
    ⟨some 29, none, .v fun s => some (s.get 6)⟩,
    ⟨some 30, none, .v fun s => binA prog .lss 3 (s.get 29) (.int .i64 0)⟩,
    ⟨some 31, none, .v fun s => some (s.get 30)⟩,
    ⟨some 32, some (31, false), .v fun s => some (s.get 6)⟩,
    ⟨some 33, some (31, false), .v fun s => some (s.get 0)⟩,
    ⟨some 34, some (31, false), .v fun s => binA prog .geq 3 (s.get 32) (s.get 33)⟩,
    ⟨some 35, none, .v fun s => pickA (s.get 31) (.bool true) (s.get 34)⟩,
    ⟨some 36, none, .v fun s => some (s.get 35)⟩,
    ⟨some 37, some (36, false), .v fun s => some (s.get 5)⟩,
    ⟨some 38, some (36, false), .v fun s => binA prog .gtr 3 (s.get 37) (.int .i64 0)⟩,
    ⟨some 39, some (36, false), .v fun s => some (s.get 38)⟩,
    ⟨some 40, some (39, true), .v fun s => some (s.get 6)⟩,
    ⟨some 41, some (39, true), .v fun s => some (s.get 1)⟩,
    ⟨some 42, some (39, true), .v fun s => some (s.get 5)⟩,
    ⟨some 43, some (39, true), .v fun s => binA prog .sub 3 (s.get 42) (.int .i64 1)⟩,
    ⟨some 44, some (39, true), .v fun s => idxSl 1 (s.get 41) (s.get 43)⟩,
    ⟨some 45, some (39, true), .v fun s => loadF false 1 (s.get 44)⟩,
    ⟨some 46, some (39, true), .v fun s => binA prog .leq 3 (s.get 40) (s.get 45)⟩,
    ⟨some 47, some (36, false), .v fun s => pickA (s.get 39) (s.get 46) (.bool false)⟩,
    ⟨some 48, none, .v fun s => pickA (s.get 36) (.bool true) (s.get 47)⟩] K s := (den_reg hf _ K s).trans (by kernel_rfl)
theorem i4_eq (K : List Item) (s : St) : den prog ann 55 (.code i4 :: K) s = ifV prog ann 55 48 i4t i4e K s (s.get 48) := den_if hf (by kernel_rfl) K s
theorem i4t_eq (K : List Item) (s : St) : den prog ann 55 (.code i4t :: K) s = den prog ann 55 (.code r11 :: .code .ret :: K) s := den_flat hf (l := [r11, .ret]) (by kernel_rfl) K s
theorem r11_eq (K : List Item) (s : St) : den prog ann 55 (.code r11 :: K) s = mreg prog ann 55 none [] none [] [
    ⟨some 4, none, .v fun s => some (.int .i64 2)⟩] K s := (den_reg hf _ K s).trans (by kernel_rfl)
theorem i4e_eq (K : List Item) (s : St) : den prog ann 55 (.code i4e :: K) s = den prog ann 55 (K) s := den_flat hf (l := []) (by kernel_rfl) K s
theorem r12_eq (K : List Item) (s : St) : den prog ann 55 (.code r12 :: K) s = mreg prog ann 55 (some [0, 1, 22, 23, 24]) [] none [] [
    ⟨some 49, none, .v fun s => binA prog .add 3 (s.get 24) (.int .i64 1)⟩,
    ⟨some 24, none, .v fun s => some (s.get 49)⟩] K s := (den_reg hf _ K s).trans (by kernel_rfl)
theorem r13_eq (K : List Item) (s : St) : den prog ann 55 (.code r13 :: K) s = mreg prog ann 55 (some []) [] none [] [
    ⟨some 4, none, .v fun s => some (.int .i64 0)⟩] K s := (den_reg hf _ K s).trans (by kernel_rfl)
theorem ret_eq (K : List Item) (s : St) : den prog ann 55 (.code .ret :: K) s = finM true [fun s => some (s.get 4)] s := (den_ret hf K s).trans (by kernel_rfl)
theorem nil_eq (s : St) : den prog ann 55 [] s = finM true [fun s => some (s.get 4)] s := (den_nil hf s).trans (by kernel_rfl)
theorem inBlock_eq (id : Nat) (K : List Item) (s : St) : den prog ann 55 (.inBlock id :: K) s = den prog ann 55 K s := den_inBlock hf id K s
theorem exit_eq (id : Nat) (K : List Item) (s : St) : den prog ann 55 (.code (.exit id) :: K) s = exitV prog ann 55 (exitTo id K) s := den_exitV hf id K s
theorem call_eq (v0 v1 : AV) (m : Mem) (h : closedL [v0, v1] = true) : denC prog ann 55 [v0, v1] m = (den prog ann 55 [.code b] ⟨[(0, v0), (1, v1)], 50, Mem.empty⟩).bind fun r => some (r.1, m) := (denC_pure hf (b := b) (by kernel_rfl) (by kernel_rfl) (by kernel_rfl) h m).trans (by kernel_rfl)
theorem pure_eq : (ann 55).pure = true := by kernel_rfl
attribute [simp] b_eq r0_eq k0_eq r1_eq i0_eq i0t_eq r2_eq i0e_eq r3_eq i1_eq i1t_eq r4_eq i1e_eq r5_eq i2_eq i2t_eq r6_eq i2e_eq r7_eq k1_eq l1_eq r8_eq i3_eq i3t_eq i3e_eq k2_eq r9_eq r10_eq i4_eq i4t_eq r11_eq i4e_eq r12_eq r13_eq ret_eq nil_eq inBlock_eq exit_eq pure_eq
end strap_ring

namespace strap_differences
/-- pommel/strap.differences -/
noncomputable def b : Code := (Try.f56.body).getD .skip
theorem hf : prog.funcs[56]? = some Try.f56 := by kernel_rfl
noncomputable def r0 : Code := findReg b 0
noncomputable def r1 : Code := findReg b 1
noncomputable def r2 : Code := findReg b 2
noncomputable def k0 : Code := findBlk b 0
noncomputable def l0 : Code := loopOf k0
noncomputable def L0 (x0 x1 x5 x12 x13 x14 : AV) (m : Mem) (K : List Item) : Option Res := den prog ann 56 (.code l0 :: .inLoop l0 :: .inBlock 0 :: K) ⟨[(0, x0), (1, x1), (5, x5), (12, x12), (13, x13), (14, x14)], 42, m⟩
noncomputable def r3 : Code := findReg b 3
noncomputable def i0 : Code := findCond b 0
noncomputable def i0t : Code := thenOf i0
noncomputable def i0e : Code := elseOf i0
noncomputable def k1 : Code := findBlk b 1
noncomputable def r4 : Code := findReg b 4
noncomputable def r5 : Code := findReg b 5
noncomputable def k2 : Code := findBlk b 2
noncomputable def l2 : Code := loopOf k2
noncomputable def L2 (x0 x1 x5 x7 x12 x13 x14 x18 x19 x20 : AV) (m : Mem) (K : List Item) : Option Res := den prog ann 56 (.code l2 :: .inLoop l2 :: .inBlock 2 :: K) ⟨[(0, x0), (1, x1), (5, x5), (7, x7), (12, x12), (13, x13), (14, x14), (18, x18), (19, x19), (20, x20)], 42, m⟩
noncomputable def r6 : Code := findReg b 6
noncomputable def i1 : Code := findCond b 1
noncomputable def i1t : Code := thenOf i1
noncomputable def i1e : Code := elseOf i1
noncomputable def k3 : Code := findBlk b 3
noncomputable def r7 : Code := findReg b 7
noncomputable def r8 : Code := findReg b 8
noncomputable def i2 : Code := findCond b 2
noncomputable def i2t : Code := thenOf i2
noncomputable def i2e : Code := elseOf i2
noncomputable def r9 : Code := findReg b 9
noncomputable def r10 : Code := findReg b 10
noncomputable def r11 : Code := findReg b 11
noncomputable def r12 : Code := findReg b 12
theorem b_eq (K : List Item) (s : St) : den prog ann 56 (.code b :: K) s = den prog ann 56 (.code r0 :: .code r1 :: .code r2 :: .code k0 :: .code r12 :: .code .ret :: K) s := den_flat hf (l := [r0, r1, r2, k0, r12, .ret]) (by kernel_rfl) K s
theorem r0_eq (K : List Item) (s : St) : den prog ann 56 (.code r0 :: K) s = mreg prog ann 56 none [] none [] [
    ⟨some 4, none, .v fun s => some (.nils)⟩] K s := (den_reg hf _ K s).trans (by kernel_rfl)
theorem r1_eq (K : List Item) (s : St) : den prog ann 56 (.code r1 :: K) s = mreg prog ann 56 none [] none [] [
    ⟨some 10, none, .v fun s => some (s.get 0)⟩,
    ⟨some 11, none, .w false none fun s => makeA 1 8 (.int .i64 0) s.m (s.get 10) (s.get 10)⟩,
    ⟨some 5, none, .v fun s => some (s.get 11)⟩] K s := (den_reg hf _ K s).trans (by kernel_rfl)
theorem r2_eq (K : List Item) (s : St) : den prog ann 56 (.code r2 :: K) s = mreg prog ann 56 none [] none [] [
    ⟨some 12, none, .v fun s => some (s.get 1)⟩,
    ⟨some 13, none, .v fun s => lenSl (s.get 12)⟩,
    ⟨some 14, none, .v fun s => some (.int .i64 0)⟩] K s := (den_reg hf _ K s).trans (by kernel_rfl)
theorem k0_eq (K : List Item) (t : List (Nat × AV)) (m : Mem) : den prog ann 56 (.code k0 :: K) ⟨t, 42, m⟩ = L0 (get t 0) (get t 1) (get t 5) (get t 12) (get t 13) (get t 14) m K := den_loop_enter hf (b := l0) (id := 3) (l := [0, 1, 5, 12, 13, 14]) (by kernel_rfl) (by kernel_rfl) (by kernel_rfl) K _
theorem l0_eq (K : List Item) (t : List (Nat × AV)) (m : Mem) : den prog ann 56 (.inLoop l0 :: .inBlock 0 :: K) ⟨t, 42, m⟩ = L0 (get t 0) (get t 1) (get t 5) (get t 12) (get t 13) (get t 14) m K := den_loop_again hf (id := 3) (l := [0, 1, 5, 12, 13, 14]) (by kernel_rfl) (by kernel_rfl) (.inBlock 0 :: K) _
theorem L0_eq (x0 x1 x5 x12 x13 x14 : AV) (m : Mem) (K : List Item) : L0 x0 x1 x5 x12 x13 x14 m K = den prog ann 56 (.code r3 :: .code i0 :: .code k1 :: .code r11 :: .inLoop l0 :: .inBlock 0 :: K) ⟨[(0, x0), (1, x1), (5, x5), (12, x12), (13, x13), (14, x14)], 42, m⟩ := den_flat hf (l := [r3, i0, k1, r11]) (by kernel_rfl) _ _
theorem r3_eq (K : List Item) (s : St) : den prog ann 56 (.code r3 :: K) s = mreg prog ann 56 (some [0, 1, 5, 12, 13, 14]) [] none [] [
    ⟨some 15, none, .v fun s => binA prog .lss 3 (s.get 14) (s.get 13)⟩] K s := (den_reg hf _ K s).trans (by kernel_rfl)
theorem i0_eq (K : List Item) (s : St) : den prog ann 56 (.code i0 :: K) s = ifV prog ann 56 15 i0t i0e K s (s.get 15) := den_if hf (by kernel_rfl) K s
theorem i0t_eq (K : List Item) (s : St) : den prog ann 56 (.code i0t :: K) s = den prog ann 56 (K) s := den_flat hf (l := []) (by kernel_rfl) K s
theorem i0e_eq (K : List Item) (s : St) : den prog ann 56 (.code i0e :: K) s = den prog ann 56 (.code (.exit 0) :: K) s := den_flat hf (l := [(.exit 0)]) (by kernel_rfl) K s
theorem k1_eq (K : List Item) (s : St) : den prog ann 56 (.code k1 :: K) s = den prog ann 56 (.code r4 :: .code r5 :: .code k2 :: .inBlock 1 :: K) s := den_blk hf (b := blkOf k1) (l := [r4, r5, k2]) (by kernel_rfl) (by kernel_rfl) K s
theorem r4_eq (K : List Item) (s : St) : den prog ann 56 (.code r4 :: K) s = mreg prog ann 56 none [] none [] [
    ⟨some 16, none, .v fun s => idxSl 1 (s.get 12) (s.get 14)⟩,
    ⟨some 17, none, .v fun s => loadF false 1 (s.get 16)⟩,
    ⟨some 7, none, .v fun s => some (s.get 17)⟩] K s := (den_reg hf _ K s).trans (by kernel_rfl)
theorem r5_eq (K : List Item) (s : St) : den prog ann 56 (.code r5 :: K) s = mreg prog ann 56 none [] none [] [
    ⟨some 18, none, .v fun s => some (s.get 1)⟩,
    ⟨some 19, none, .v fun s => lenSl (s.get 18)⟩,
    ⟨some 20, none, .v fun s => some (.int .i64 0)⟩] K s := (den_reg hf _ K s).trans (by kernel_rfl)
theorem k2_eq (K : List Item) (t : List (Nat × AV)) (m : Mem) : den prog ann 56 (.code k2 :: K) ⟨t, 42, m⟩ = L2 (get t 0) (get t 1) (get t 5) (get t 7) (get t 12) (get t 13) (get t 14) (get t 18) (get t 19) (get t 20) m K := den_loop_enter hf (b := l2) (id := 6) (l := [0, 1, 5, 7, 12, 13, 14, 18, 19, 20]) (by kernel_rfl) (by kernel_rfl) (by kernel_rfl) K _
theorem l2_eq (K : List Item) (t : List (Nat × AV)) (m : Mem) : den prog ann 56 (.inLoop l2 :: .inBlock 2 :: K) ⟨t, 42, m⟩ = L2 (get t 0) (get t 1) (get t 5) (get t 7) (get t 12) (get t 13) (get t 14) (get t 18) (get t 19) (get t 20) m K := den_loop_again hf (id := 6) (l := [0, 1, 5, 7, 12, 13, 14, 18, 19, 20]) (by kernel_rfl) (by kernel_rfl) (.inBlock 2 :: K) _
theorem L2_eq (x0 x1 x5 x7 x12 x13 x14 x18 x19 x20 : AV) (m : Mem) (K : List Item) : L2 x0 x1 x5 x7 x12 x13 x14 x18 x19 x20 m K = den prog ann 56 (.code r6 :: .code i1 :: .code k3 :: .code r10 :: .inLoop l2 :: .inBlock 2 :: K) ⟨[(0, x0), (1, x1), (5, x5), (7, x7), (12, x12), (13, x13), (14, x14), (18, x18), (19, x19), (20, x20)], 42, m⟩ := den_flat hf (l := [r6, i1, k3, r10]) (by kernel_rfl) _ _
theorem r6_eq (K : List Item) (s : St) : den prog ann 56 (.code r6 :: K) s = mreg prog ann 56 (some [0, 1, 5, 7, 12, 13, 14, 18, 19, 20]) [] none [] [
    ⟨some 21, none, .v fun s => binA prog .lss 3 (s.get 20) (s.get 19)⟩] K s := (den_reg hf _ K s).trans (by kernel_rfl)
theorem i1_eq (K : List Item) (s : St) : den prog ann 56 (.code i1 :: K) s = ifV prog ann 56 21 i1t i1e K s (s.get 21) := den_if hf (by kernel_rfl) K s
theorem i1t_eq (K : List Item) (s : St) : den prog ann 56 (.code i1t :: K) s = den prog ann 56 (K) s := den_flat hf (l := []) (by kernel_rfl) K s
theorem i1e_eq (K : List Item) (s : St) : den prog ann 56 (.code i1e :: K) s = den prog ann 56 (.code (.exit 2) :: K) s := den_flat hf (l := [(.exit 2)]) (by kernel_rfl) K s
theorem k3_eq (K : List Item) (s : St) : den prog ann 56 (.code k3 :: K) s = den prog ann 56 (.code r7 :: .code r8 :: .code i2 :: .inBlock 3 :: K) s := den_blk hf (b := blkOf k3) (l := [r7, r8, i2]) (by kernel_rfl) (by kernel_rfl) K s
theorem r7_eq (K : List Item) (s : St) : den prog ann 56 (.code r7 :: K) s = mreg prog ann 56 none [] none [] [
    ⟨some 22, none, .v fun s => idxSl 1 (s.get 18) (s.get 20)⟩,
    ⟨some 23, none, .v fun s => loadF false 1 (s.get 22)⟩,
    ⟨some 9, none, .v fun s => some (s.get 23)⟩] K s := (den_reg hf _ K s).trans (by kernel_rfl)
theorem r8_eq (K : List Item) (s : St) : den prog ann 56 (.code r8 :: K) s = mreg prog ann 56 none [] none [] [
    ⟨some 24, none, .v fun s => some (s.get 7)⟩,
    ⟨some 25, none, .v fun s => some (s.get 9)⟩,
    ⟨some 26, none, .v fun s => binA prog .neq 3 (s.get 24) (s.get 25)⟩] K s := (den_reg hf _ K s).trans (by kernel_rfl)
theorem i2_eq (K : List Item) (s : St) : den prog ann 56 (.code i2 :: K) s = ifV prog ann 56 26 i2t i2e K s (s.get 26) := den_if hf (by kernel_rfl) K s
theorem i2t_eq (K : List Item) (s : St) : den prog ann 56 (.code i2t :: K) s = den prog ann 56 (.code r9 :: K) s := den_flat hf (l := [r9]) (by kernel_rfl) K s
theorem r9_eq (K : List Item) (s : St) : den prog ann 56 (.code r9 :: K) s = mreg prog ann 56 none [] none [] [
    ⟨some 27, none, .v fun s => some (s.get 5)⟩,
    ⟨some 28, none, .v fun s => some (s.get 7)⟩,
    ⟨some 29, none, .v fun s => some (s.get 9)⟩,
    ⟨some 30, none, .v fun s => binA prog .sub 3 (s.get 28) (s.get 29)⟩,
    ⟨some 31, none, .v fun s => some (s.get 0)⟩,
    ⟨some 32, none, .v fun s => binA prog .add 3 (s.get 30) (s.get 31)⟩,
    ⟨some 33, none, .v fun s => some (s.get 0)⟩,
    ⟨some 34, none, .v fun s => binA prog .rem 3 (s.get 32) (s.get 33)⟩,
    ⟨some 35, none, .v fun s => idxSl 1 (s.get 27) (s.get 34)⟩,
    ⟨some 36, none, .v fun s => loadA false 1 s.m (s.get 35)⟩,
    ⟨some 37, none, .v fun s => binA prog .add 3 (s.get 36) (.int .i64 1)⟩,
    ⟨some 38, none, .v fun s => idxSl 1 (s.get 27) (s.get 34)⟩,
    ⟨none, none, .w false none fun s => stA false 1 s.m (s.get 38) (s.get 37)⟩] K s := (den_reg hf _ K s).trans (by kernel_rfl)
theorem i2e_eq (K : List Item) (s : St) : den prog ann 56 (.code i2e :: K) s = den prog ann 56 (K) s := den_flat hf (l := []) (by kernel_rfl) K s
theorem r10_eq (K : List Item) (s : St) : den prog ann 56 (.code r10 :: K) s = mreg prog ann 56 (some [0, 1, 5, 7, 12, 13, 14, 18, 19, 20]) [] none [] [
    ⟨some 39, none, .v fun s => binA prog .add 3 (s.get 20) (.int .i64 1)⟩,
    ⟨some 20, none, .v fun s => some (s.get 39)⟩] K s := (den_reg hf _ K s).trans (by kernel_rfl)
theorem r11_eq (K : List Item) (s : St) : den prog ann 56 (.code r11 :: K) s = mreg prog ann 56 (some [0, 1, 5, 12, 13, 14]) [] none [] [
    ⟨some 40, none, .v fun s => binA prog .add 3 (s.get 14) (.int .i64 1)⟩,
    ⟨some 14, none, .v fun s => some (s.get 40)⟩] K s := (den_reg hf _ K s).trans (by kernel_rfl)
theorem r12_eq (K : List Item) (s : St) : den prog ann 56 (.code r12 :: K) s = mreg prog ann 56 (some [5]) [] none [] [
    ⟨some 41, none, .v fun s => some (s.get 5)⟩,
    ⟨some 4, none, .v fun s => some (s.get 41)⟩] K s := (den_reg hf _ K s).trans (by kernel_rfl)
theorem ret_eq (K : List Item) (s : St) : den prog ann 56 (.code .ret :: K) s = finM true [fun s => some (s.get 4)] s := (den_ret hf K s).trans (by kernel_rfl)
theorem nil_eq (s : St) : den prog ann 56 [] s = finM true [fun s => some (s.get 4)] s := (den_nil hf s).trans (by kernel_rfl)
theorem inBlock_eq (id : Nat) (K : List Item) (s : St) : den prog ann 56 (.inBlock id :: K) s = den prog ann 56 K s := den_inBlock hf id K s
theorem exit_eq (id : Nat) (K : List Item) (s : St) : den prog ann 56 (.code (.exit id) :: K) s = exitV prog ann 56 (exitTo id K) s := den_exitV hf id K s
theorem call_eq (v0 v1 : AV) (m : Mem) (h : closedL [v0, v1] = true) : denC prog ann 56 [v0, v1] m = (den prog ann 56 [.code b] ⟨[(0, v0), (1, v1)], 42, Mem.empty⟩).bind fun r => some (r.1, m) := (denC_pure hf (b := b) (by kernel_rfl) (by kernel_rfl) (by kernel_rfl) h m).trans (by kernel_rfl)
theorem pure_eq : (ann 56).pure = true := by kernel_rfl
attribute [simp] b_eq r0_eq r1_eq r2_eq k0_eq l0_eq r3_eq i0_eq i0t_eq i0e_eq k1_eq r4_eq r5_eq k2_eq l2_eq r6_eq i1_eq i1t_eq i1e_eq k3_eq r7_eq r8_eq i2_eq i2t_eq r9_eq i2e_eq r10_eq r11_eq r12_eq ret_eq nil_eq inBlock_eq exit_eq pure_eq
end strap_differences

end Go.Proofs.Ytpghadmpegncgaa

/-
  BODIES OF FUNCTIONS OF THE PROGRAM AS SMALL OPERATIONS (written by gen.py; checked by the kernel against the program). Conditions: none.
-/
namespace Go.Proofs.Ytpghadmpegncgaa
open Go.AM
open Go.Proofs.Try (prog)
set_option maxRecDepth 100000
set_option linter.all false

namespace r04_Set
/-- pommel/pommelref04.Set -/
noncomputable def b : Code := (Try.f32.body).getD .skip
theorem hf : prog.funcs[32]? = some Try.f32 := by kernel_rfl
noncomputable def r0 : Code := findReg b 0
noncomputable def r1 : Code := findReg b 1
noncomputable def i0 : Code := findCond b 0
noncomputable def i0t : Code := thenOf i0
noncomputable def i0e : Code := elseOf i0
noncomputable def r2 : Code := findReg b 2
noncomputable def r3 : Code := findReg b 3
noncomputable def i1 : Code := findCond b 1
noncomputable def i1t : Code := thenOf i1
noncomputable def i1e : Code := elseOf i1
noncomputable def r4 : Code := findReg b 4
noncomputable def r5 : Code := findReg b 5
noncomputable def k0 : Code := findBlk b 0
noncomputable def l0 : Code := loopOf k0
noncomputable def L0 (x0 x1 x5 : AV) (m : Mem) (K : List Item) : Option Res := den prog ann 32 (.code l0 :: .inLoop l0 :: .inBlock 0 :: K) ⟨[(0, x0), (1, x1), (5, x5)], 45, m⟩
noncomputable def r6 : Code := findReg b 6
noncomputable def i2 : Code := findCond b 2
noncomputable def i2t : Code := thenOf i2
noncomputable def i2e : Code := elseOf i2
noncomputable def k1 : Code := findBlk b 1
noncomputable def r8 : Code := findReg b 8
noncomputable def i3 : Code := findCond b 3
noncomputable def i3t : Code := thenOf i3
noncomputable def i3e : Code := elseOf i3
noncomputable def r9 : Code := findReg b 9
noncomputable def r7 : Code := findReg b 7
noncomputable def r10 : Code := findReg b 10
noncomputable def i4 : Code := findCond b 4
noncomputable def i4t : Code := thenOf i4
noncomputable def i4e : Code := elseOf i4
noncomputable def r11 : Code := findReg b 11
noncomputable def r12 : Code := findReg b 12
theorem b_eq (K : List Item) (s : St) : den prog ann 32 (.code b :: K) s = den prog ann 32 (.code r0 :: .code r1 :: .code i0 :: .code r3 :: .code i1 :: .code r5 :: .code k0 :: .code r10 :: .code i4 :: .code r12 :: .code .ret :: K) s := den_flat hf (l := [r0, r1, i0, r3, i1, r5, k0, r10, i4, r12, .ret]) (by kernel_rfl) K s
theorem r0_eq (K : List Item) (s : St) : den prog ann 32 (.code r0 :: K) s = mreg prog ann 32 none [] none [] [
    ⟨some 4, none, .v fun s => some (.int .i64 0)⟩] K s := (den_reg hf _ K s).trans (by kernel_rfl)
theorem r1_eq (K : List Item) (s : St) : den prog ann 32 (.code r1 :: K) s = mreg prog ann 32 none [] none [] [
    ⟨some 6, none, .v fun s => some (s.get 1)⟩,
    ⟨some 7, none, .v fun s => lenSl (s.get 6)⟩,
    ⟨some 8, none, .v fun s => binA prog .gtr 3 (s.get 7) (.int .i64 31)⟩] K s := (den_reg hf _ K s).trans (by kernel_rfl)
theorem i0_eq (K : List Item) (s : St) : den prog ann 32 (.code i0 :: K) s = ifV prog ann 32 8 i0t i0e K s (s.get 8) := den_if hf (by kernel_rfl) K s
theorem i0t_eq (K : List Item) (s : St) : den prog ann 32 (.code i0t :: K) s = den prog ann 32 (.code r2 :: .code .ret :: K) s := den_flat hf (l := [r2, .ret]) (by kernel_rfl) K s
theorem r2_eq (K : List Item) (s : St) : den prog ann 32 (.code r2 :: K) s = mreg prog ann 32 none [] none [] [
    ⟨some 4, none, .v fun s => some (.int .i64 3)⟩] K s := (den_reg hf _ K s).trans (by kernel_rfl)
theorem i0e_eq (K : List Item) (s : St) : den prog ann 32 (.code i0e :: K) s = den prog ann 32 (K) s := den_flat hf (l := []) (by kernel_rfl) K s
theorem r3_eq (K : List Item) (s : St) : den prog ann 32 (.code r3 :: K) s = mreg prog ann 32 none [] none [] [
    ⟨some 9, none, .v fun s => some (s.get 0)⟩,
    ⟨some 10, none, .c 0 (fun s => (.fn 59 [] [])) fun s => [(s.get 9), (.int .i64 2), (.int .i64 31)]⟩,
    ⟨some 11, none, .v fun s => unA .not (s.get 10)⟩] K s := (den_reg hf _ K s).trans (by kernel_rfl)
theorem i1_eq (K : List Item) (s : St) : den prog ann 32 (.code i1 :: K) s = ifV prog ann 32 11 i1t i1e K s (s.get 11) := den_if hf (by kernel_rfl) K s
theorem i1t_eq (K : List Item) (s : St) : den prog ann 32 (.code i1t :: K) s = den prog ann 32 (.code r4 :: .code .ret :: K) s := den_flat hf (l := [r4, .ret]) (by kernel_rfl) K s
theorem r4_eq (K : List Item) (s : St) : den prog ann 32 (.code r4 :: K) s = mreg prog ann 32 none [] none [] [
    ⟨some 4, none, .v fun s => some (.int .i64 1)⟩] K s := (den_reg hf _ K s).trans (by kernel_rfl)
theorem i1e_eq (K : List Item) (s : St) : den prog ann 32 (.code i1e :: K) s = den prog ann 32 (K) s := den_flat hf (l := []) (by kernel_rfl) K s
theorem r5_eq (K : List Item) (s : St) : den prog ann 32 (.code r5 :: K) s = mreg prog ann 32 none [] none [] [
    ⟨some 5, none, .v fun s => some (.int .i64 0)⟩] K s := (den_reg hf _ K s).trans (by kernel_rfl)
theorem k0_eq (K : List Item) (t : List (Nat × AV)) (m : Mem) : den prog ann 32 (.code k0 :: K) ⟨t, 45, m⟩ = L0 (get t 0) (get t 1) (get t 5) m K := den_loop_enter hf (b := l0) (id := 6) (l := [0, 1, 5]) (by kernel_rfl) (by kernel_rfl) (by kernel_rfl) K _
theorem l0_eq (K : List Item) (t : List (Nat × AV)) (m : Mem) : den prog ann 32 (.inLoop l0 :: .inBlock 0 :: K) ⟨t, 45, m⟩ = L0 (get t 0) (get t 1) (get t 5) m K := den_loop_again hf (id := 6) (l := [0, 1, 5]) (by kernel_rfl) (by kernel_rfl) (.inBlock 0 :: K) _
theorem L0_eq (x0 x1 x5 : AV) (m : Mem) (K : List Item) : L0 x0 x1 x5 m K = den prog ann 32 (.code r6 :: .code i2 :: .code k1 :: .code r7 :: .inLoop l0 :: .inBlock 0 :: K) ⟨[(0, x0), (1, x1), (5, x5)], 45, m⟩ := den_flat hf (l := [r6, i2, k1, r7]) (by kernel_rfl) _ _
theorem r6_eq (K : List Item) (s : St) : den prog ann 32 (.code r6 :: K) s = mreg prog ann 32 (some [0, 1, 5]) [] none [] [
    ⟨some 12, none, .v fun s => some (s.get 5)⟩,
    ⟨some 13, none, .v fun s => some (s.get 1)⟩,
    ⟨some 14, none, .v fun s => lenSl (s.get 13)⟩,
    ⟨some 15, none, .v fun s => binA prog .lss 3 (s.get 12) (s.get 14)⟩] K s := (den_reg hf _ K s).trans (by kernel_rfl)
theorem i2_eq (K : List Item) (s : St) : den prog ann 32 (.code i2 :: K) s = ifV prog ann 32 15 i2t i2e K s (s.get 15) := den_if hf (by kernel_rfl) K s
theorem i2t_eq (K : List Item) (s : St) : den prog ann 32 (.code i2t :: K) s = den prog ann 32 (K) s := den_flat hf (l := []) (by kernel_rfl) K s
theorem i2e_eq (K : List Item) (s : St) : den prog ann 32 (.code i2e :: K) s = den prog ann 32 (.code (.exit 0) :: K) s := den_flat hf (l := [(.exit 0)]) (by kernel_rfl) K s
theorem k1_eq (K : List Item) (s : St) : den prog ann 32 (.code k1 :: K) s = den prog ann 32 (.code r8 :: .code i3 :: .inBlock 1 :: K) s := den_blk hf (b := blkOf k1) (l := [r8, i3]) (by kernel_rfl) (by kernel_rfl) K s
theorem r8_draw : drawOk (fun g => (ann g).pure) (modeOf (ann 32) (idOf r8)) (frzOf (ann 32) (idOf r8)) (opsOf r8) = true := drawOk_of (an := [0, 0, 3, 7, 0, 16, 63, 127, 255, 511, 1023, 2047, 4095, 4095, 16383, 32767, 4095, 4095, 135167, 462847, 987135, 2097151, 4194303, 8388607]) (by kernel_rfl) (by kernel_rfl)
theorem r8_eq (K : List Item) (s : St) : den prog ann 32 (.code r8 :: K) s = mreg prog ann 32 none [] (some 24) [] [
    ⟨some 18, none, .v fun s => some (s.get 1)⟩,
    ⟨some 19, none, .v fun s => some (s.get 5)⟩,
    ⟨some 20, none, .v fun s => idxSl 1 (s.get 18) (s.get 19)⟩,
    ⟨some 21, none, .v fun s => loadF false 1 (s.get 20)⟩,
    ⟨some 22, none, .v fun s => some (s.get 0)⟩,
    ⟨some 23, none, .v fun s => binA prog .sub 3 (s.get 22) (.int .i64 1)⟩,
    ⟨some 24, none, .c 0 (fun s => (.fn 59 [] [])) fun s => [(s.get 21), (.int .i64 0), (s.get 23)]⟩,
    ⟨some 25, none, .v fun s => unA .not (s.get 24)⟩,
    ⟨some 26, none, .v fun s => some (s.get 25)⟩,
    ⟨some 27, some (26, false), .v fun s => some (s.get 5)⟩,
    ⟨some 28, some (26, false), .v fun s => binA prog .gtr 3 (s.get 27) (.int .i64 0)⟩,
    ⟨some 29, some (26, false), .v fun s => some (s.get 28)⟩,
    ⟨some 30, some (29, true), .v fun s => some (s.get 1)⟩,
    ⟨some 31, some (29, true), .v fun s => some (s.get 5)⟩,
    ⟨some 32, some (29, true), .v fun s => idxSl 1 (s.get 30) (s.get 31)⟩,
    ⟨some 33, some (29, true), .v fun s => loadF false 1 (s.get 32)⟩,
    ⟨some 34, some (29, true), .v fun s => some (s.get 1)⟩,
    ⟨some 35, some (29, true), .v fun s => some (s.get 5)⟩,
    ⟨some 36, some (29, true), .v fun s => binA prog .sub 3 (s.get 35) (.int .i64 1)⟩,
    ⟨some 37, some (29, true), .v fun s => idxSl 1 (s.get 34) (s.get 36)⟩,
    ⟨some 38, some (29, true), .v fun s => loadF false 1 (s.get 37)⟩,
    ⟨some 39, some (29, true), .v fun s => binA prog .leq 3 (s.get 33) (s.get 38)⟩,
    ⟨some 40, some (26, false), .v fun s => pickA (s.get 29) (s.get 39) (.bool false)⟩,
    ⟨some 41, none, .v fun s => pickA (s.get 26) (.bool true) (s.get 40)⟩] K s := (den_regD hf r8_draw K s).trans (by kernel_rfl)
theorem i3_eq (K : List Item) (s : St) : den prog ann 32 (.code i3 :: K) s = ifV prog ann 32 41 i3t i3e K s (s.get 41) := den_if hf (by kernel_rfl) K s
theorem i3t_eq (K : List Item) (s : St) : den prog ann 32 (.code i3t :: K) s = den prog ann 32 (.code r9 :: .code .ret :: K) s := den_flat hf (l := [r9, .ret]) (by kernel_rfl) K s
theorem r9_eq (K : List Item) (s : St) : den prog ann 32 (.code r9 :: K) s = mreg prog ann 32 none [] none [] [
    ⟨some 4, none, .v fun s => some (.int .i64 2)⟩] K s := (den_reg hf _ K s).trans (by kernel_rfl)
theorem i3e_eq (K : List Item) (s : St) : den prog ann 32 (.code i3e :: K) s = den prog ann 32 (K) s := den_flat hf (l := []) (by kernel_rfl) K s
theorem r7_eq (K : List Item) (s : St) : den prog ann 32 (.code r7 :: K) s = mreg prog ann 32 (some [0, 1, 5]) [] none [] [
    ⟨some 16, none, .v fun s => some (s.get 5)⟩,
    ⟨some 17, none, .v fun s => binA prog .add 3 (s.get 16) (.int .i64 1)⟩,
    ⟨some 5, none, .v fun s => some (s.get 17)⟩] K s := (den_reg hf _ K s).trans (by kernel_rfl)
theorem r10_eq (K : List Item) (s : St) : den prog ann 32 (.code r10 :: K) s = mreg prog ann 32 (some [1]) [] none [] [
    ⟨some 42, none, .v fun s => some (s.get 1)⟩,
    ⟨some 43, none, .v fun s => lenSl (s.get 42)⟩,
    ⟨some 44, none, .v fun s => binA prog .eql 3 (s.get 43) (.int .i64 0)⟩] K s := (den_reg hf _ K s).trans (by kernel_rfl)
theorem i4_eq (K : List Item) (s : St) : den prog ann 32 (.code i4 :: K) s = ifV prog ann 32 44 i4t i4e K s (s.get 44) := den_if hf (by kernel_rfl) K s
theorem i4t_eq (K : List Item) (s : St) : den prog ann 32 (.code i4t :: K) s = den prog ann 32 (.code r11 :: .code .ret :: K) s := den_flat hf (l := [r11, .ret]) (by kernel_rfl) K s
theorem r11_eq (K : List Item) (s : St) : den prog ann 32 (.code r11 :: K) s = mreg prog ann 32 none [] none [] [
    ⟨some 4, none, .v fun s => some (.int .i64 2)⟩] K s := (den_reg hf _ K s).trans (by kernel_rfl)
theorem i4e_eq (K : List Item) (s : St) : den prog ann 32 (.code i4e :: K) s = den prog ann 32 (K) s := den_flat hf (l := []) (by kernel_rfl) K s
theorem r12_eq (K : List Item) (s : St) : den prog ann 32 (.code r12 :: K) s = mreg prog ann 32 none [] none [] [
    ⟨some 4, none, .v fun s => some (.int .i64 0)⟩] K s := (den_reg hf _ K s).trans (by kernel_rfl)
theorem ret_eq (K : List Item) (s : St) : den prog ann 32 (.code .ret :: K) s = finM true [fun s => some (s.get 4)] s := (den_ret hf K s).trans (by kernel_rfl)
theorem nil_eq (s : St) : den prog ann 32 [] s = finM true [fun s => some (s.get 4)] s := (den_nil hf s).trans (by kernel_rfl)
theorem inBlock_eq (id : Nat) (K : List Item) (s : St) : den prog ann 32 (.inBlock id :: K) s = den prog ann 32 K s := den_inBlock hf id K s
theorem exit_eq (id : Nat) (K : List Item) (s : St) : den prog ann 32 (.code (.exit id) :: K) s = exitV prog ann 32 (exitTo id K) s := den_exitV hf id K s
theorem call_eq (v0 v1 : AV) (m : Mem) (h : closedL [v0, v1] = true) : denC prog ann 32 [v0, v1] m = (den prog ann 32 [.code b] ⟨[(0, v0), (1, v1)], 45, Mem.empty⟩).bind fun r => some (r.1, m) := (denC_pure hf (b := b) (by kernel_rfl) (by kernel_rfl) (by kernel_rfl) h m).trans (by kernel_rfl)
theorem pure_eq : (ann 32).pure = true := by kernel_rfl
attribute [simp] b_eq r0_eq r1_eq i0_eq i0t_eq r2_eq i0e_eq r3_eq i1_eq i1t_eq r4_eq i1e_eq r5_eq k0_eq l0_eq r6_eq i2_eq i2t_eq i2e_eq k1_eq r8_eq i3_eq i3t_eq r9_eq i3e_eq r7_eq r10_eq i4_eq i4t_eq r11_eq i4e_eq r12_eq ret_eq nil_eq inBlock_eq exit_eq pure_eq
end r04_Set

namespace r04_in
/-- pommel/pommelref04.in -/
noncomputable def b : Code := (Try.f59.body).getD .skip
theorem hf : prog.funcs[59]? = some Try.f59 := by kernel_rfl
noncomputable def r0 : Code := findReg b 0
noncomputable def r1 : Code := findReg b 1
theorem b_eq (K : List Item) (s : St) : den prog ann 59 (.code b :: K) s = den prog ann 59 (.code r0 :: .code r1 :: .code .ret :: K) s := den_flat hf (l := [r0, r1, .ret]) (by kernel_rfl) K s
theorem r0_eq (K : List Item) (s : St) : den prog ann 59 (.code r0 :: K) s = mreg prog ann 59 none [] none [] [
    ⟨some 6, none, .v fun s => some (.bool false)⟩] K s := (den_reg hf _ K s).trans (by kernel_rfl)
theorem r1_eq (K : List Item) (s : St) : den prog ann 59 (.code r1 :: K) s = mreg prog ann 59 none [] none [] [
    ⟨some 7, none, .v fun s => some (s.get 0)⟩,
    ⟨some 8, none, .v fun s => some (s.get 1)⟩,
    ⟨some 9, none, .v fun s => binA prog .geq 3 (s.get 7) (s.get 8)⟩,
    ⟨some 10, none, .v fun s => some (s.get 9)⟩,
    ⟨some 11, some (10, true), .v fun s => some (s.get 0)⟩,
    ⟨some 12, some (10, true), .v fun s => some (s.get 2)⟩,
    ⟨some 13, some (10, true), .v fun s => binA prog .leq 3 (s.get 11) (s.get 12)⟩,
    ⟨some 14, none, .v fun s => pickA (s.get 10) (s.get 13) (.bool false)⟩,
    ⟨some 6, none, .v fun s => some (s.get 14)⟩] K s := (den_reg hf _ K s).trans (by kernel_rfl)
theorem ret_eq (K : List Item) (s : St) : den prog ann 59 (.code .ret :: K) s = finM true [fun s => some (s.get 6)] s := (den_ret hf K s).trans (by kernel_rfl)
theorem nil_eq (s : St) : den prog ann 59 [] s = finM true [fun s => some (s.get 6)] s := (den_nil hf s).trans (by kernel_rfl)
theorem inBlock_eq (id : Nat) (K : List Item) (s : St) : den prog ann 59 (.inBlock id :: K) s = den prog ann 59 K s := den_inBlock hf id K s
theorem exit_eq (id : Nat) (K : List Item) (s : St) : den prog ann 59 (.code (.exit id) :: K) s = exitV prog ann 59 (exitTo id K) s := den_exitV hf id K s
theorem call_eq (v0 v1 v2 : AV) (m : Mem) (h : closedL [v0, v1, v2] = true) : denC prog ann 59 [v0, v1, v2] m = (den prog ann 59 [.code b] ⟨[(0, v0), (1, v1), (2, v2)], 15, Mem.empty⟩).bind fun r => some (r.1, m) := (denC_pure hf (b := b) (by kernel_rfl) (by kernel_rfl) (by kernel_rfl) h m).trans (by kernel_rfl)
theorem pure_eq : (ann 59).pure = true := by kernel_rfl
attribute [simp] b_eq r0_eq r1_eq ret_eq nil_eq inBlock_eq exit_eq pure_eq
end r04_in

end Go.Proofs.Ytpghadmpegncgaa

/-
  STRAPS (12): round straps: the tests, how often each difference comes. Conditions: none.
-/
namespace Go.Proofs.Ytpghadmpegncgaa
open Go.AM
open Go.Proofs.Try (prog)
set_option linter.all false
set_option maxRecDepth 100000
set_option maxHeartbeats 4000000

/-- A round strap: places below v, rising. -/
structure RingOk (v : Int) (l : List Int) : Prop where
  v2 : 2 ≤ v
  v31 : v ≤ 31
  pos : 0 < l.length
  few : l.length ≤ 31
  rng : ∀ i, i < l.length → 0 ≤ nth l i ∧ nth l i < v
  asc : ∀ i, i + 1 < l.length → nth l i < nth l (i + 1)
theorem RingOk.lt {v : Int} {l : List Int} (s : RingOk v l) {i : Nat} : ∀ {j : Nat}, i < j → j < l.length → nth l i < nth l j
  | j + 1, h, hj => by
    rcases Nat.eq_or_lt_of_le (Nat.le_of_lt_succ h) with e | e
    · subst e; exact s.asc i hj
    · exact Int.lt_trans (s.lt e (by omega)) (s.asc j hj)
/-- Why places are no round strap. -/
inductive RingErr (v : Int) (l : List Int) : Int → Prop where
  | long (h : 31 < l.length) : RingErr v l 3
  | arg (h : l.length ≤ 31) (h2 : v < 2 ∨ 31 < v) : RingErr v l 1
  | form (h : l.length ≤ 31) (h2 : 2 ≤ v ∧ v ≤ 31) (h3 : ¬ RingOk v l) : RingErr v l 2
  | ok (h : RingOk v l) : RingErr v l 0
theorem RingErr.uniq {v : Int} {l : List Int} {a b : Int} (h : RingErr v l a) (k : RingErr v l b) : a = b := by
  cases h with
  | long h => cases k with
    | long _ => rfl
    | arg h2 _ => omega
    | form h2 _ _ => omega
    | ok s => have := s.few; omega
  | arg h h2 => cases k with
    | long _ => omega
    | arg _ _ => rfl
    | form _ h3 _ => omega
    | ok s => have := s.v2; have := s.v31; omega
  | form h h2 h3 => cases k with
    | long _ => omega
    | arg _ _ => omega
    | form _ _ _ => rfl
    | ok s => exact absurd s h3
  | ok s => cases k with
    | long _ => have := s.few; omega
    | arg _ _ => have := s.v2; have := s.v31; omega
    | form _ _ h => exact absurd s h
    | ok _ => rfl
def rOk (v : Int) (l : List Int) (j : Nat) : Bool := decide (0 ≤ nth l j ∧ nth l j < v) && (decide (j = 0) || decide (nth l (j - 1) < nth l j))
theorem rOk_ring {v : Int} {l : List Int} (h2 : 2 ≤ v ∧ v ≤ 31) (h : 0 < l.length ∧ l.length ≤ 31) : RingOk v l ↔ (List.range' 0 l.length).all (rOk v l) = true := by
  rw [List.all_eq_true]
  constructor
  · intro s j hj
    simp [List.mem_range'_1] at hj
    have := s.rng j hj
    simp only [rOk, Bool.and_eq_true, Bool.or_eq_true, decide_eq_true_eq]
    refine ⟨this, ?_⟩
    by_cases e : j = 0
    · exact .inl e
    · have := s.asc (j - 1) (by omega)
      rw [show j - 1 + 1 = j by omega] at this
      exact .inr this
  · intro a
    have a' : ∀ j, j < l.length → rOk v l j = true := fun j hj => a j (by simp [List.mem_range'_1]; exact hj)
    refine ⟨h2.1, h2.2, h.1, h.2, fun i hi => ?_, fun i hi => ?_⟩
    · have := a' i hi
      simp only [rOk, Bool.and_eq_true, decide_eq_true_eq] at this
      exact this.1
    · have := a' (i + 1) hi
      simp only [rOk, Bool.and_eq_true, Bool.or_eq_true, decide_eq_true_eq] at this
      rcases this.2 with e | e
      · omega
      · exact e
theorem ring_loop {w : AV} {l : List Int} (hv : IsInts w l) (hl : l.length ≤ 31) (v : Int) : ∀ (k i : Nat) (m : Mem), i + k = l.length →
    strap_ring.L1 (.int .i64 v) w w (.int .i64 l.length) (.int .i64 i) m [.code strap_ring.r13, .code .ret] = some (.int .i64 (if (List.range' i k).all (rOk v l) = true then 0 else 2), Mem.empty) := by
  intro k
  induction k with
  | zero =>
    intro i m h1
    have e : i = l.length := by omega
    rw [strap_ring.L1_eq]
    simp [e]
    done
  | succ k ih =>
    intro i m h1
    have hi : i < l.length := by omega
    have hw : IntKind.wrap .i64 ((i : Int) + 1) = (i : Int) + 1 := wrap_id (by omega) (by omega)
    have hst := fun m => ih (i + 1) m (by omega)
    simp only [Int.natCast_add, Int.cast_ofNat_Int] at hst
    have e : (List.range' i (k + 1)).all (rOk v l) = (rOk v l i && (List.range' (i + 1) k).all (rOk v l)) := by simp [List.range'_succ]
    rw [e, strap_ring.L1_eq]
    by_cases q1 : nth l i < 0
    · have ho : rOk v l i = false := by simp [rOk]; omega
      rw [ho, Bool.false_and]
      simp [hi, hv.idx hi, ints_head hi, q1]
      done
    · by_cases q2 : v ≤ nth l i
      · have ho : rOk v l i = false := by simp [rOk]; omega
        rw [ho, Bool.false_and]
        simp [hi, hv.idx hi, ints_head hi, q1, q2]
        done
      · by_cases hz : i = 0
        · subst hz
          have ho : rOk v l 0 = true := by simp [rOk]; omega
          rw [ho, Bool.true_and]
          have i0 := hv.idx hi .i64
          have i1 := ints_head hi
          simp only [Int.ofNat_zero, Int.cast_ofNat_Int, List.drop_zero, Int.zero_add, Nat.zero_add] at i0 i1 hst hw
          simp [hi, i0, i1, q1, q2, hw, hst]
          done
        · have hw1 : IntKind.wrap .i64 ((i : Int) - 1) = ((i - 1 : Nat) : Int) := by rw [wrap_id (by omega) (by omega)]; omega
          have hj : i - 1 < l.length := by omega
          have hp : 0 < i := by omega
          by_cases q3 : nth l i ≤ nth l (i - 1)
          · have ho : rOk v l i = false := by simp [rOk]; omega
            rw [ho, Bool.false_and]
            simp [hi, hv.idx hi, ints_head hi, q1, q2, hw1, hv.idx hj, ints_head hj, hp, q3]
            done
          · have ho : rOk v l i = true := by simp [rOk]; omega
            rw [ho, Bool.true_and]
            simp [hi, hv.idx hi, ints_head hi, q1, q2, hw1, hv.idx hj, ints_head hj, hp, q3, hw, hst]
            done
theorem ring_spec {w : AV} {l : List Int} (hv : IsInts w l) (hl : l.length < 1000000) (v : Int) : ∃ e, RingErr v l e ∧ ∀ m, denC prog ann 55 [.int .i64 v, w] m = some (.int .i64 e, m) := by
  have hcl : closedL [.int .i64 v, w] = true := by simp [hv.closed]
  by_cases q1 : (31 : Int) < l.length
  · refine ⟨3, .long (by omega), fun m => ?_⟩
    rw [strap_ring.call_eq _ _ _ hcl]
    simp [hv.len, q1]
    done
  · by_cases q2 : v < 2
    · refine ⟨1, .arg (by omega) (.inl q2), fun m => ?_⟩
      rw [strap_ring.call_eq _ _ _ hcl]
      simp [hv.len, q1, q2]
      done
    · by_cases q3 : 31 < v
      · refine ⟨1, .arg (by omega) (.inr q3), fun m => ?_⟩
        rw [strap_ring.call_eq _ _ _ hcl]
        simp [hv.len, q1, q2, q3]
        done
      · by_cases q4 : l.length = 0
        · refine ⟨2, .form (by omega) (by omega) (fun s => by have := s.pos; omega), fun m => ?_⟩
          rw [strap_ring.call_eq _ _ _ hcl]
          simp [hv.len, q1, q2, q3, q4]
          done
        · have q4' : ¬ l = [] := fun e => q4 (by rw [e]; rfl)
          have lp := fun m => ring_loop hv (by omega) v l.length 0 m (by omega)
          simp only [Int.ofNat_zero, Int.cast_ofNat_Int] at lp
          have hro := rOk_ring (v := v) (l := l) (by omega) (by omega)
          by_cases q5 : (List.range' 0 l.length).all (rOk v l) = true
          · refine ⟨0, .ok (hro.2 q5), fun m => ?_⟩
            simp only [if_pos q5] at lp
            rw [strap_ring.call_eq _ _ _ hcl]
            simp [hv.len, q1, q2, q3, q4', lp]
            done
          · refine ⟨2, .form (by omega) (by omega) (fun s => q5 (hro.1 s)), fun m => ?_⟩
            simp only [if_neg q5] at lp
            rw [strap_ring.call_eq _ _ _ hcl]
            simp [hv.len, q1, q2, q3, q4', lp]
            done
/-- The specification's. -/
theorem in_spec (a b c : Int) (m : Mem) : denC prog ann 59 [.int .i64 a, .int .i64 b, .int .i64 c] m = some (.bool (decide (b ≤ a) && decide (a ≤ c)), m) := by
  rw [r04_in.call_eq _ _ _ _ rfl]
  by_cases q : b ≤ a
  · simp [q]
    done
  · simp [q]
    done
theorem set_loop {w : AV} {l : List Int} (hv : IsInts w l) (hl : l.length ≤ 31) (v : Int) (hv2 : 2 ≤ v ∧ v ≤ 31) : ∀ (k i : Nat) (m : Mem), i + k = l.length →
    r04_Set.L0 (.int .i64 v) w (.int .i64 i) m [.code r04_Set.r10, .code r04_Set.i4, .code r04_Set.r12, .code .ret] = some (.int .i64 (if (List.range' i k).all (rOk v l) = true ∧ l.length ≠ 0 then 0 else 2), Mem.empty) := by
  intro k
  have hwv : IntKind.wrap .i64 (v - 1) = v - 1 := wrap_id (by omega) (by omega)
  induction k with
  | zero =>
    intro i m h1
    have e : i = l.length := by omega
    rw [r04_Set.L0_eq]
    by_cases h0 : l.length = 0
    · simp [e, hv.len, h0]
      done
    · simp [e, hv.len, h0]
      done
  | succ k ih =>
    intro i m h1
    have hi : i < l.length := by omega
    have h0 : ¬ l.length = 0 := by omega
    have hw : IntKind.wrap .i64 ((i : Int) + 1) = (i : Int) + 1 := wrap_id (by omega) (by omega)
    have hst := fun m => ih (i + 1) m (by omega)
    simp only [Int.natCast_add, Int.cast_ofNat_Int] at hst
    have e : (List.range' i (k + 1)).all (rOk v l) = (rOk v l i && (List.range' (i + 1) k).all (rOk v l)) := by simp [List.range'_succ]
    have hin := fun m => in_spec (nth l i) 0 (v - 1) m
    rw [e, r04_Set.L0_eq]
    by_cases q1 : 0 ≤ nth l i ∧ nth l i < v
    · rw [decide_eq_true q1.1, decide_eq_true (show nth l i ≤ v - 1 by omega)] at hin
      by_cases hz : i = 0
      · subst hz
        have ho : rOk v l 0 = true := by simp [rOk]; omega
        rw [ho, Bool.true_and]
        have i0 := hv.idx hi .i64
        have i1 := ints_head hi
        simp only [Int.ofNat_zero, Int.cast_ofNat_Int, List.drop_zero, Int.zero_add, Nat.zero_add] at i0 i1 hst hw
        simp [hi, hv.len, i0, i1, hwv, hin, hw, hst, h0]
        done
      · have hw1 : IntKind.wrap .i64 ((i : Int) - 1) = ((i - 1 : Nat) : Int) := by rw [wrap_id (by omega) (by omega)]; omega
        have hj : i - 1 < l.length := by omega
        have hp : 0 < i := by omega
        by_cases q3 : nth l i ≤ nth l (i - 1)
        · have ho : rOk v l i = false := by simp [rOk]; omega
          rw [ho, Bool.false_and]
          simp [hi, hv.len, hv.idx hi, ints_head hi, hwv, hin, hw1, hv.idx hj, ints_head hj, hp, q3]
          done
        · have ho : rOk v l i = true := by simp [rOk]; omega
          rw [ho, Bool.true_and]
          simp [hi, hv.len, hv.idx hi, ints_head hi, hwv, hin, hw1, hv.idx hj, ints_head hj, hp, q3, hw, hst, h0]
          done
    · have ho : rOk v l i = false := by simp only [rOk, decide_eq_false q1, Bool.false_and]
      have hf : (decide (0 ≤ nth l i) && decide (nth l i ≤ v - 1)) = false := by
        by_cases a : 0 ≤ nth l i
        · rw [decide_eq_false (show ¬ nth l i ≤ v - 1 by omega), Bool.and_false]
        · rw [decide_eq_false a, Bool.false_and]
      rw [hf] at hin
      rw [ho, Bool.false_and]
      simp [hi, hv.len, hv.idx hi, ints_head hi, hwv, hin]
      done
theorem set_spec {w : AV} {l : List Int} (hv : IsInts w l) (hl : l.length < 1000000) (v : Int) : ∃ e, RingErr v l e ∧ ∀ m, denC prog ann 32 [.int .i64 v, w] m = some (.int .i64 e, m) := by
  have hcl : closedL [.int .i64 v, w] = true := by simp [hv.closed]
  by_cases q1 : (31 : Int) < l.length
  · refine ⟨3, .long (by omega), fun m => ?_⟩
    rw [r04_Set.call_eq _ _ _ hcl]
    simp [hv.len, q1]
    done
  · have hin := fun m => in_spec v 2 31 m
    by_cases q2 : 2 ≤ v ∧ v ≤ 31
    · rw [decide_eq_true q2.1, decide_eq_true q2.2] at hin
      have lp := fun m => set_loop hv (by omega) v q2 l.length 0 m (by omega)
      simp only [Int.ofNat_zero, Int.cast_ofNat_Int] at lp
      by_cases q5 : (List.range' 0 l.length).all (rOk v l) = true ∧ l.length ≠ 0
      · refine ⟨0, .ok ((rOk_ring q2 (by omega)).2 q5.1), fun m => ?_⟩
        simp only [if_pos q5] at lp
        rw [r04_Set.call_eq _ _ _ hcl]
        simp [hv.len, q1, hin, lp]
        done
      · refine ⟨2, .form (by omega) q2 (fun s => q5 ⟨(rOk_ring q2 ⟨s.pos, by omega⟩).1 s, by have := s.pos; omega⟩), fun m => ?_⟩
        simp only [if_neg q5] at lp
        rw [r04_Set.call_eq _ _ _ hcl]
        simp [hv.len, q1, hin, lp]
        done
    · have hf : (decide (2 ≤ v) && decide (v ≤ 31)) = false := by
        by_cases a : 2 ≤ v
        · rw [decide_eq_false (show ¬ v ≤ 31 by omega), Bool.and_false]
        · rw [decide_eq_false a, Bool.false_and]
      rw [hf] at hin
      refine ⟨1, .arg (by omega) (by omega), fun m => ?_⟩
      rw [r04_Set.call_eq _ _ _ hcl]
      simp [hv.len, q1, hin]
      done
theorem ring_set {w : AV} {l : List Int} (hv : IsInts w l) (hl : l.length < 1000000) (v : Int) : ∃ e, RingErr v l e ∧ (∀ m, denC prog ann 55 [.int .i64 v, w] m = some (.int .i64 e, m)) ∧ ∀ m, denC prog ann 32 [.int .i64 v, w] m = some (.int .i64 e, m) := by
  obtain ⟨e, h1, h2⟩ := ring_spec hv hl v
  obtain ⟨e', h3, h4⟩ := set_spec hv hl v
  have := h1.uniq h3
  subst this
  exact ⟨e, h1, h2, h4⟩

/-! ### How often each difference comes -/
def dfF (l : List Int) (v : Int) (i : Nat) (k j : Nat) (c : List Int) : List Int := (List.range' j k).foldl (fun c q => if i = q then c else bump c ((nth l i - nth l q + v).tmod v).toNat) c
def dfO (l : List Int) (v : Int) (k i : Nat) (c : List Int) : List Int := (List.range' i k).foldl (fun c i => dfF l v i l.length 0 c) c
theorem dfF_succ (l : List Int) (v : Int) (i k j : Nat) (c : List Int) : dfF l v i (k + 1) j c = dfF l v i k (j + 1) (if i = j then c else bump c ((nth l i - nth l j + v).tmod v).toNat) := by simp [dfF, List.range'_succ]
theorem dfO_succ (l : List Int) (v : Int) (k i : Nat) (c : List Int) : dfO l v (k + 1) i c = dfO l v k (i + 1) (dfF l v i l.length 0 c) := by simp [dfO, List.range'_succ]
theorem dfF_len (l : List Int) (v : Int) (i : Nat) : ∀ (k j : Nat) (c : List Int), (dfF l v i k j c).length = c.length
  | 0, _, _ => rfl
  | k + 1, j, c => by rw [dfF_succ, dfF_len]; split <;> simp [bump_len]
theorem dfO_len (l : List Int) (v : Int) : ∀ (k i : Nat) (c : List Int), (dfO l v k i c).length = c.length
  | 0, _, _ => rfl
  | k + 1, i, c => by rw [dfO_succ, dfO_len, dfF_len]
theorem Small.dfF {l : List Int} {v : Int} {i : Nat} : ∀ {k j : Nat} {c : List Int} {B : Int}, Small c B → 0 ≤ B → Small (Go.Proofs.Ytpghadmpegncgaa.dfF l v i k j c) (B + k)
  | 0, _, _, _, h, _ => by simpa [Go.Proofs.Ytpghadmpegncgaa.dfF] using h
  | k + 1, j, c, B, h, hB => by
    rw [dfF_succ]
    have h1 : Small (if i = j then c else Go.AM.bump c ((nth l i - nth l j + v).tmod v).toNat) (B + 1) := by
      split
      · intro g; have := h g; omega
      · exact h.bump hB _
    have := h1.dfF (l := l) (v := v) (i := i) (k := k) (j := j + 1) (by omega)
    rwa [show B + 1 + (k : Int) = B + ((k + 1 : Nat) : Int) by omega] at this
def diffs (v : Int) (l : List Int) : List Int := dfO l v l.length 0 (List.replicate v.toNat 0)
theorem RingOk.ne {v : Int} {l : List Int} (s : RingOk v l) {i j : Nat} (hi : i < l.length) (hj : j < l.length) : nth l i = nth l j ↔ i = j := by
  constructor
  · intro h
    rcases Nat.lt_trichotomy i j with q | q | q
    · have := s.lt q hj; omega
    · exact q
    · have := s.lt q hi; omega
  · intro h; rw [h]
end Go.Proofs.Ytpghadmpegncgaa
