/-
  BODIES OF FUNCTIONS OF THE PROGRAM AS SMALL OPERATIONS (written by gen.py; checked by the kernel against the program). Conditions: none.
-/
import Derived.Test.YtdkmepjedjclkaaKAmH
import Derived.Test.YtdkmepjedjclkaaK05
import Derived.Test.YtdkmepjedjclkaaK00
set_option linter.all false
namespace Go.Proofs.Ytdkmepjedjclkaa
open Go.AM
open Go.Proofs.Try (prog)
set_option maxRecDepth 100000
set_option linter.all false

namespace watch_Definitely
/-- pommel/watch.Definitely -/
noncomputable def b : Code := (Try.f39.body).getD .skip
theorem hf : prog.funcs[39]? = some Try.f39 := by kernel_rfl
noncomputable def r0 : Code := findReg b 0
noncomputable def r1 : Code := findReg b 1
noncomputable def r2 : Code := findReg b 2
noncomputable def i0 : Code := findCond b 0
noncomputable def i0t : Code := thenOf i0
noncomputable def i0e : Code := elseOf i0
noncomputable def r3 : Code := findReg b 3
noncomputable def r4 : Code := findReg b 4
noncomputable def r5 : Code := findReg b 5
noncomputable def r6 : Code := findReg b 6
noncomputable def r7 : Code := findReg b 7
noncomputable def r8 : Code := findReg b 8
noncomputable def i1 : Code := findCond b 1
noncomputable def i1t : Code := thenOf i1
noncomputable def i1e : Code := elseOf i1
noncomputable def r9 : Code := findReg b 9
noncomputable def r10 : Code := findReg b 10
theorem b_eq (K : List Item) (s : St) : den prog ann 39 (.code b :: K) s = den prog ann 39 (.code r0 :: .code r1 :: .code r2 :: .code i0 :: .code r4 :: .code r5 :: .code r6 :: .code r7 :: .code r8 :: .code i1 :: .code r10 :: .code .ret :: K) s := den_flat hf (l := [r0, r1, r2, i0, r4, r5, r6, r7, r8, i1, r10, .ret]) (by kernel_rfl) K s
theorem r0_eq (K : List Item) (s : St) : den prog ann 39 (.code r0 :: K) s = mreg prog ann 39 none [] none [] [
    ⟨some 2, none, .v fun s => frozenPtr (s.get 0)⟩,
    ⟨some 4, none, .v fun s => some (.nils)⟩,
    ⟨some 5, none, .v fun s => some (.int .i64 0)⟩] K s := (den_reg hf _ K s).trans (by kernel_rfl)
theorem r1_eq (K : List Item) (s : St) : den prog ann 39 (.code r1 :: K) s = mreg prog ann 39 none [] none [6, 7] [
    ⟨some 13, none, .v fun s => loadF true 2 (s.get 2)⟩,
    ⟨some 14, none, .v fun s => some (s.get 1)⟩,
    ⟨some 15, none, .c 0 (fun s => (.fn 74 [] [])) fun s => [(s.get 13), (s.get 14)]⟩,
    ⟨some 12, none, .v fun s => some (s.get 15)⟩,
    ⟨some 16, none, .v fun s => extA (s.get 12) 0⟩,
    ⟨some 17, none, .v fun s => extA (s.get 12) 1⟩,
    ⟨some 18, none, .v fun s => extA (s.get 12) 2⟩,
    ⟨some 6, none, .w false none fun s => newPtr s.m [.nilp]⟩,
    ⟨some 7, none, .w false none fun s => newPtr s.m [.nilm]⟩,
    ⟨none, none, .w false none fun s => stA false 1 s.m (s.get 6) (s.get 16)⟩,
    ⟨none, none, .w false none fun s => stA false 1 s.m (s.get 7) (s.get 17)⟩,
    ⟨some 8, none, .v fun s => some (s.get 18)⟩] K s := (den_reg hf _ K s).trans (by kernel_rfl)
theorem r2_eq (K : List Item) (s : St) : den prog ann 39 (.code r2 :: K) s = mreg prog ann 39 none [] none [] [
    ⟨some 19, none, .v fun s => some (s.get 8)⟩,
    ⟨some 20, none, .v fun s => binA prog .neq 27 (s.get 19) (.int .i64 0)⟩] K s := (den_reg hf _ K s).trans (by kernel_rfl)
theorem i0_eq (K : List Item) (s : St) : den prog ann 39 (.code i0 :: K) s = ifV prog ann 39 20 i0t i0e K s (s.get 20) := den_if hf (by kernel_rfl) K s
theorem i0t_eq (K : List Item) (s : St) : den prog ann 39 (.code i0t :: K) s = den prog ann 39 (.code r3 :: .code .ret :: K) s := den_flat hf (l := [r3, .ret]) (by kernel_rfl) K s
theorem r3_eq (K : List Item) (s : St) : den prog ann 39 (.code r3 :: K) s = mreg prog ann 39 none [] none [] [
    ⟨some 21, none, .v fun s => some (s.get 8)⟩,
    ⟨some 4, none, .v fun s => some (.nils)⟩,
    ⟨some 5, none, .v fun s => some (s.get 21)⟩] K s := (den_reg hf _ K s).trans (by kernel_rfl)
theorem i0e_eq (K : List Item) (s : St) : den prog ann 39 (.code i0e :: K) s = den prog ann 39 (K) s := den_flat hf (l := []) (by kernel_rfl) K s
theorem r4_eq (K : List Item) (s : St) : den prog ann 39 (.code r4 :: K) s = mreg prog ann 39 none [] none [9] [
    ⟨some 22, none, .w false none fun s => some (.map s.m.nx, s.m.new (.map 0 [] []))⟩,
    ⟨some 9, none, .w false none fun s => newPtr s.m [.nilm]⟩,
    ⟨none, none, .w false none fun s => stA false 1 s.m (s.get 9) (s.get 22)⟩] K s := (den_reg hf _ K s).trans (by kernel_rfl)
theorem r5_eq (K : List Item) (s : St) : den prog ann 39 (.code r5 :: K) s = mreg prog ann 39 none [] none [] [
    ⟨some 10, none, .w false none fun s => newPtr s.m [.nilf]⟩] K s := (den_reg hf _ K s).trans (by kernel_rfl)
theorem r6_eq (K : List Item) (s : St) : den prog ann 39 (.code r6 :: K) s = mreg prog ann 39 none [] none [] [
    ⟨some 23, none, .v fun s => some (.fn 77 [] [(s.get 7), (s.get 9), (s.get 6), (s.get 10)])⟩,
    ⟨none, none, .w false none fun s => stA false 1 s.m (s.get 10) (s.get 23)⟩] K s := (den_reg hf _ K s).trans (by kernel_rfl)
theorem r7_eq (K : List Item) (s : St) : den prog ann 39 (.code r7 :: K) s = mreg prog ann 39 none [] none [] [
    ⟨some 24, none, .v fun s => loadA false 1 s.m (s.get 10)⟩,
    ⟨some 25, none, .v fun s => bldA (plcA 1) [.int .i64 0, .int .i64 0, .int .i64 0, .int .i64 0] []⟩,
    ⟨some 26, none, .c 0 (fun s => (s.get 24)) fun s => [(s.get 25)]⟩,
    ⟨some 11, none, .v fun s => some (s.get 26)⟩] K s := (den_reg hf _ K s).trans (by kernel_rfl)
theorem r8_eq (K : List Item) (s : St) : den prog ann 39 (.code r8 :: K) s = mreg prog ann 39 none [] none [] [
    ⟨some 27, none, .v fun s => some (s.get 11)⟩,
    ⟨some 28, none, .v fun s => binA prog .eql 31 (s.get 27) (.nils)⟩] K s := (den_reg hf _ K s).trans (by kernel_rfl)
theorem i1_eq (K : List Item) (s : St) : den prog ann 39 (.code i1 :: K) s = ifV prog ann 39 28 i1t i1e K s (s.get 28) := den_if hf (by kernel_rfl) K s
theorem i1t_eq (K : List Item) (s : St) : den prog ann 39 (.code i1t :: K) s = den prog ann 39 (.code r9 :: .code .ret :: K) s := den_flat hf (l := [r9, .ret]) (by kernel_rfl) K s
theorem r9_eq (K : List Item) (s : St) : den prog ann 39 (.code r9 :: K) s = mreg prog ann 39 none [] none [] [
    ⟨some 4, none, .v fun s => some (.nils)⟩,
    ⟨some 5, none, .v fun s => some (.int .i64 5)⟩] K s := (den_reg hf _ K s).trans (by kernel_rfl)
theorem i1e_eq (K : List Item) (s : St) : den prog ann 39 (.code i1e :: K) s = den prog ann 39 (K) s := den_flat hf (l := []) (by kernel_rfl) K s
theorem r10_eq (K : List Item) (s : St) : den prog ann 39 (.code r10 :: K) s = mreg prog ann 39 none [] none [] [
    ⟨some 29, none, .v fun s => some (s.get 11)⟩,
    ⟨some 4, none, .v fun s => some (s.get 29)⟩,
    ⟨some 5, none, .v fun s => some (.int .i64 0)⟩] K s := (den_reg hf _ K s).trans (by kernel_rfl)
theorem ret_eq (K : List Item) (s : St) : den prog ann 39 (.code .ret :: K) s = finM true [fun s => some (s.get 4), fun s => some (s.get 5)] s := (den_ret hf K s).trans (by kernel_rfl)
theorem nil_eq (s : St) : den prog ann 39 [] s = finM true [fun s => some (s.get 4), fun s => some (s.get 5)] s := (den_nil hf s).trans (by kernel_rfl)
theorem inBlock_eq (id : Nat) (K : List Item) (s : St) : den prog ann 39 (.inBlock id :: K) s = den prog ann 39 K s := den_inBlock hf id K s
theorem exit_eq (id : Nat) (K : List Item) (s : St) : den prog ann 39 (.code (.exit id) :: K) s = exitV prog ann 39 (exitTo id K) s := den_exitV hf id K s
theorem call_eq (v0 v1 : AV) (m : Mem) (h : closedL [v0, v1] = true) : denC prog ann 39 [v0, v1] m = (den prog ann 39 [.code b] ⟨[(0, v0), (1, v1)], 30, Mem.empty⟩).bind fun r => some (r.1, m) := (denC_pure hf (b := b) (by kernel_rfl) (by kernel_rfl) (by kernel_rfl) h m).trans (by kernel_rfl)
theorem pure_eq : (ann 39).pure = true := by kernel_rfl
attribute [simp] b_eq r0_eq r1_eq r2_eq i0_eq i0t_eq r3_eq i0e_eq r4_eq r5_eq r6_eq r7_eq r8_eq i1_eq i1t_eq r9_eq i1e_eq r10_eq ret_eq nil_eq inBlock_eq exit_eq pure_eq
end watch_Definitely

namespace watch_Definitely_1
/-- pommel/watch.Definitely$1 -/
noncomputable def b : Code := (Try.f77.body).getD .skip
theorem hf : prog.funcs[77]? = some Try.f77 := by kernel_rfl
noncomputable def r0 : Code := findReg b 0
noncomputable def r1 : Code := findReg b 1
noncomputable def i0 : Code := findCond b 0
noncomputable def i0t : Code := thenOf i0
noncomputable def i0e : Code := elseOf i0
noncomputable def r2 : Code := findReg b 2
noncomputable def r3 : Code := findReg b 3
noncomputable def i1 : Code := findCond b 1
noncomputable def i1t : Code := thenOf i1
noncomputable def i1e : Code := elseOf i1
noncomputable def r4 : Code := findReg b 4
noncomputable def r5 : Code := findReg b 5
noncomputable def k0 : Code := findBlk b 0
noncomputable def l0 : Code := loopOf k0
noncomputable def L0 (x2 x3 x4 x5 x30 x31 x32 : AV) (m : Mem) (K : List Item) : Option Res := den prog ann 77 (.code l0 :: .inLoop l0 :: .inBlock 0 :: K) ⟨[(2, x2), (3, x3), (4, x4), (5, x5), (30, x30), (31, x31), (32, x32)], 50, m⟩
noncomputable def r6 : Code := findReg b 6
noncomputable def i2 : Code := findCond b 2
noncomputable def i2t : Code := thenOf i2
noncomputable def i2e : Code := elseOf i2
noncomputable def k1 : Code := findBlk b 1
noncomputable def r7 : Code := findReg b 7
noncomputable def r8 : Code := findReg b 8
noncomputable def r9 : Code := findReg b 9
noncomputable def i3 : Code := findCond b 3
noncomputable def i3t : Code := thenOf i3
noncomputable def i3e : Code := elseOf i3
noncomputable def r10 : Code := findReg b 10
noncomputable def r11 : Code := findReg b 11
noncomputable def r12 : Code := findReg b 12
noncomputable def r13 : Code := findReg b 13
theorem b_eq (K : List Item) (s : St) : den prog ann 77 (.code b :: K) s = den prog ann 77 (.code r0 :: .code r1 :: .code i0 :: .code r3 :: .code i1 :: .code r5 :: .code k0 :: .code r12 :: .code r13 :: .code .ret :: K) s := den_flat hf (l := [r0, r1, i0, r3, i1, r5, k0, r12, r13, .ret]) (by kernel_rfl) K s
theorem r0_eq (K : List Item) (s : St) : den prog ann 77 (.code r0 :: K) s = mreg prog ann 77 none [] none [] [
    ⟨some 5, none, .v fun s => frozenPtr (s.get 0)⟩,
    ⟨some 6, none, .v fun s => some (.nils)⟩] K s := (den_reg hf _ K s).trans (by kernel_rfl)
theorem r1_eq (K : List Item) (s : St) : den prog ann 77 (.code r1 :: K) s = mreg prog ann 77 none [] none [] [
    ⟨some 10, none, .v fun s => loadA false 1 s.m (s.get 1)⟩,
    ⟨some 11, none, .v fun s => loadF true 4 (s.get 5)⟩,
    ⟨some 12, none, .v fun s => lookP prog s.m 99 (.bool false) (s.get 10) (s.get 11) false⟩,
    ⟨some 13, none, .v fun s => some (s.get 12)⟩,
    ⟨some 14, some (13, false), .v fun s => loadA false 1 s.m (s.get 2)⟩,
    ⟨some 15, some (13, false), .v fun s => loadF true 4 (s.get 5)⟩,
    ⟨some 16, some (13, false), .v fun s => lookP prog s.m 99 (.bool false) (s.get 14) (s.get 15) false⟩,
    ⟨some 17, none, .v fun s => pickA (s.get 13) (.bool true) (s.get 16)⟩] K s := (den_reg hf _ K s).trans (by kernel_rfl)
theorem i0_eq (K : List Item) (s : St) : den prog ann 77 (.code i0 :: K) s = ifV prog ann 77 17 i0t i0e K s (s.get 17) := den_if hf (by kernel_rfl) K s
theorem i0t_eq (K : List Item) (s : St) : den prog ann 77 (.code i0t :: K) s = den prog ann 77 (.code r2 :: .code .ret :: K) s := den_flat hf (l := [r2, .ret]) (by kernel_rfl) K s
theorem r2_eq (K : List Item) (s : St) : den prog ann 77 (.code r2 :: K) s = mreg prog ann 77 none [] none [] [
    ⟨some 6, none, .v fun s => some (.nils)⟩] K s := (den_reg hf _ K s).trans (by kernel_rfl)
theorem i0e_eq (K : List Item) (s : St) : den prog ann 77 (.code i0e :: K) s = den prog ann 77 (K) s := den_flat hf (l := []) (by kernel_rfl) K s
theorem r3_draw : drawOk (fun g => (ann g).pure) (modeOf (ann 77) (idOf r3)) (frzOf (ann 77) (idOf r3)) (opsOf r3) = true := drawOk_of (an := [0, 0, 2, 6, 14, 31]) (by kernel_rfl) (by kernel_rfl)
theorem r3_eq (K : List Item) (s : St) : den prog ann 77 (.code r3 :: K) s = mreg prog ann 77 none [] (some 6) [] [
    ⟨some 18, none, .v fun s => loadF true 4 (s.get 5)⟩,
    ⟨some 19, none, .v fun s => loadA false 1 s.m (s.get 3)⟩,
    ⟨some 20, none, .v fun s => nilA (s.get 19)⟩,
    ⟨some 21, none, .v fun s => fieldA 1 (s.get 20)⟩,
    ⟨some 22, none, .v fun s => loadA true 4 s.m (s.get 21)⟩,
    ⟨some 23, none, .v fun s => binA prog .eql 99 (s.get 18) (s.get 22)⟩] K s := (den_regD hf r3_draw K s).trans (by kernel_rfl)
theorem i1_eq (K : List Item) (s : St) : den prog ann 77 (.code i1 :: K) s = ifV prog ann 77 23 i1t i1e K s (s.get 23) := den_if hf (by kernel_rfl) K s
theorem i1t_eq (K : List Item) (s : St) : den prog ann 77 (.code i1t :: K) s = den prog ann 77 (.code r4 :: .code .ret :: K) s := den_flat hf (l := [r4, .ret]) (by kernel_rfl) K s
theorem r4_eq (K : List Item) (s : St) : den prog ann 77 (.code r4 :: K) s = mreg prog ann 77 none [] none [] [
    ⟨some 24, none, .v fun s => loadA false 1 s.m (s.get 3)⟩,
    ⟨some 25, none, .v fun s => loadF true 4 (s.get 5)⟩,
    ⟨some 26, none, .c 2 (fun s => (.fn 63 [] [])) fun s => [(s.get 24), (s.get 25)]⟩,
    ⟨some 27, none, .v fun s => bslF 1 (bslA 1 1 [.nils] [(0, (s.get 26))])⟩,
    ⟨some 6, none, .v fun s => some (s.get 27)⟩] K s := (den_reg hf _ K s).trans (by kernel_rfl)
theorem i1e_eq (K : List Item) (s : St) : den prog ann 77 (.code i1e :: K) s = den prog ann 77 (K) s := den_flat hf (l := []) (by kernel_rfl) K s
theorem r5_eq (K : List Item) (s : St) : den prog ann 77 (.code r5 :: K) s = mreg prog ann 77 none [] none [] [
    ⟨some 28, none, .v fun s => loadA false 1 s.m (s.get 3)⟩,
    ⟨some 29, none, .v fun s => loadF true 4 (s.get 5)⟩,
    ⟨some 30, none, .c 2 (fun s => (.fn 73 [] [])) fun s => [(s.get 28), (s.get 29)]⟩,
    ⟨some 31, none, .v fun s => lenSl (s.get 30)⟩,
    ⟨some 32, none, .v fun s => some (.int .i64 0)⟩] K s := (den_reg hf _ K s).trans (by kernel_rfl)
theorem k0_eq (K : List Item) (t : List (Nat × AV)) (m : Mem) : den prog ann 77 (.code k0 :: K) ⟨t, 50, m⟩ = L0 (get t 2) (get t 3) (get t 4) (get t 5) (get t 30) (get t 31) (get t 32) m K := den_loop_enter hf (b := l0) (id := 6) (l := [2, 3, 4, 5, 30, 31, 32]) (by kernel_rfl) (by kernel_rfl) (by kernel_rfl) K _
theorem l0_eq (K : List Item) (t : List (Nat × AV)) (m : Mem) : den prog ann 77 (.inLoop l0 :: .inBlock 0 :: K) ⟨t, 50, m⟩ = L0 (get t 2) (get t 3) (get t 4) (get t 5) (get t 30) (get t 31) (get t 32) m K := den_loop_again hf (id := 6) (l := [2, 3, 4, 5, 30, 31, 32]) (by kernel_rfl) (by kernel_rfl) (.inBlock 0 :: K) _
theorem L0_eq (x2 x3 x4 x5 x30 x31 x32 : AV) (m : Mem) (K : List Item) : L0 x2 x3 x4 x5 x30 x31 x32 m K = den prog ann 77 (.code r6 :: .code i2 :: .code k1 :: .code r11 :: .inLoop l0 :: .inBlock 0 :: K) ⟨[(2, x2), (3, x3), (4, x4), (5, x5), (30, x30), (31, x31), (32, x32)], 50, m⟩ := den_flat hf (l := [r6, i2, k1, r11]) (by kernel_rfl) _ _
theorem r6_eq (K : List Item) (s : St) : den prog ann 77 (.code r6 :: K) s = mreg prog ann 77 (some [2, 3, 4, 5, 30, 31, 32]) [] none [] [
    ⟨some 33, none, .v fun s => binA prog .lss 3 (s.get 32) (s.get 31)⟩] K s := (den_reg hf _ K s).trans (by kernel_rfl)
theorem i2_eq (K : List Item) (s : St) : den prog ann 77 (.code i2 :: K) s = ifV prog ann 77 33 i2t i2e K s (s.get 33) := den_if hf (by kernel_rfl) K s
theorem i2t_eq (K : List Item) (s : St) : den prog ann 77 (.code i2t :: K) s = den prog ann 77 (K) s := den_flat hf (l := []) (by kernel_rfl) K s
theorem i2e_eq (K : List Item) (s : St) : den prog ann 77 (.code i2e :: K) s = den prog ann 77 (.code (.exit 0) :: K) s := den_flat hf (l := [(.exit 0)]) (by kernel_rfl) K s
theorem k1_eq (K : List Item) (s : St) : den prog ann 77 (.code k1 :: K) s = den prog ann 77 (.code r7 :: .code r8 :: .code r9 :: .code i3 :: .inBlock 1 :: K) s := den_blk hf (b := blkOf k1) (l := [r7, r8, r9, i3]) (by kernel_rfl) (by kernel_rfl) K s
theorem r7_eq (K : List Item) (s : St) : den prog ann 77 (.code r7 :: K) s = mreg prog ann 77 none [] none [8] [
    ⟨some 34, none, .v fun s => idxSl 4 (s.get 30) (s.get 32)⟩,
    ⟨some 35, none, .v fun s => loadF true 4 (s.get 34)⟩,
    ⟨some 8, none, .w false none fun s => newPtr s.m [.int .i64 0, .int .i64 0, .int .i64 0, .int .i64 0]⟩,
    ⟨none, none, .w false none fun s => stA true 4 s.m (s.get 8) (s.get 35)⟩] K s := (den_reg hf _ K s).trans (by kernel_rfl)
theorem r8_eq (K : List Item) (s : St) : den prog ann 77 (.code r8 :: K) s = mreg prog ann 77 none [] none [] [
    ⟨some 36, none, .v fun s => loadA false 1 s.m (s.get 4)⟩,
    ⟨some 37, none, .v fun s => loadF true 4 (s.get 8)⟩,
    ⟨some 38, none, .c 0 (fun s => (s.get 36)) fun s => [(s.get 37)]⟩,
    ⟨some 9, none, .v fun s => some (s.get 38)⟩] K s := (den_reg hf _ K s).trans (by kernel_rfl)
theorem r9_eq (K : List Item) (s : St) : den prog ann 77 (.code r9 :: K) s = mreg prog ann 77 none [] none [] [
    ⟨some 39, none, .v fun s => some (s.get 9)⟩,
    ⟨some 40, none, .v fun s => binA prog .neq 31 (s.get 39) (.nils)⟩] K s := (den_reg hf _ K s).trans (by kernel_rfl)
theorem i3_eq (K : List Item) (s : St) : den prog ann 77 (.code i3 :: K) s = ifV prog ann 77 40 i3t i3e K s (s.get 40) := den_if hf (by kernel_rfl) K s
theorem i3t_eq (K : List Item) (s : St) : den prog ann 77 (.code i3t :: K) s = den prog ann 77 (.code r10 :: .code .ret :: K) s := den_flat hf (l := [r10, .ret]) (by kernel_rfl) K s
theorem r10_eq (K : List Item) (s : St) : den prog ann 77 (.code r10 :: K) s = mreg prog ann 77 none [] none [] [
    ⟨some 41, none, .v fun s => loadA false 1 s.m (s.get 3)⟩,
    ⟨some 42, none, .v fun s => loadF true 4 (s.get 5)⟩,
    ⟨some 43, none, .c 2 (fun s => (.fn 63 [] [])) fun s => [(s.get 41), (s.get 42)]⟩,
    ⟨some 44, none, .w false none fun s => bslM s.m 1 (bslA 1 1 [.nils] [(0, (s.get 43))])⟩,
    ⟨some 45, none, .v fun s => some (s.get 9)⟩,
    ⟨some 46, none, .w true none fun s => appendA 1 24 s.m (s.get 44) (s.get 45)⟩,
    ⟨some 6, none, .v fun s => some (s.get 46)⟩] K s := (den_reg hf _ K s).trans (by kernel_rfl)
theorem i3e_eq (K : List Item) (s : St) : den prog ann 77 (.code i3e :: K) s = den prog ann 77 (K) s := den_flat hf (l := []) (by kernel_rfl) K s
theorem r11_eq (K : List Item) (s : St) : den prog ann 77 (.code r11 :: K) s = mreg prog ann 77 (some [2, 3, 4, 5, 30, 31, 32]) [] none [] [
    ⟨some 47, none, .v fun s => binA prog .add 3 (s.get 32) (.int .i64 1)⟩,
    ⟨some 32, none, .v fun s => some (s.get 47)⟩] K s := (den_reg hf _ K s).trans (by kernel_rfl)
theorem r12_eq (K : List Item) (s : St) : den prog ann 77 (.code r12 :: K) s = mreg prog ann 77 (some [2, 5]) [] none [] [
    ⟨some 48, none, .v fun s => loadA false 1 s.m (s.get 2)⟩,
    ⟨some 49, none, .v fun s => loadF true 4 (s.get 5)⟩,
    ⟨none, none, .w false none fun s => updM prog s.m 99 (s.get 48) (s.get 49) (.bool true)⟩] K s := (den_reg hf _ K s).trans (by kernel_rfl)
theorem r13_eq (K : List Item) (s : St) : den prog ann 77 (.code r13 :: K) s = mreg prog ann 77 none [] none [] [
    ⟨some 6, none, .v fun s => some (.nils)⟩] K s := (den_reg hf _ K s).trans (by kernel_rfl)
theorem ret_eq (K : List Item) (s : St) : den prog ann 77 (.code .ret :: K) s = finM false [fun s => some (s.get 6)] s := (den_ret hf K s).trans (by kernel_rfl)
theorem nil_eq (s : St) : den prog ann 77 [] s = finM false [fun s => some (s.get 6)] s := (den_nil hf s).trans (by kernel_rfl)
theorem inBlock_eq (id : Nat) (K : List Item) (s : St) : den prog ann 77 (.inBlock id :: K) s = den prog ann 77 K s := den_inBlock hf id K s
theorem exit_eq (id : Nat) (K : List Item) (s : St) : den prog ann 77 (.code (.exit id) :: K) s = exitV prog ann 77 (exitTo id K) s := den_exitV hf id K s
theorem call_eq (v0 v1 v2 v3 v4 : AV) (m : Mem) : denC prog ann 77 [v0, v1, v2, v3, v4] m = den prog ann 77 [.code b] ⟨[(0, v0), (1, v1), (2, v2), (3, v3), (4, v4)], 50, m⟩ := (denC_impure hf (b := b) (by kernel_rfl) (by kernel_rfl) (by kernel_rfl) m).trans (by kernel_rfl)
theorem pure_eq : (ann 77).pure = false := by kernel_rfl
attribute [simp] b_eq r0_eq r1_eq i0_eq i0t_eq r2_eq i0e_eq r3_eq i1_eq i1t_eq r4_eq i1e_eq r5_eq k0_eq l0_eq r6_eq i2_eq i2t_eq i2e_eq k1_eq r7_eq r8_eq r9_eq i3_eq i3t_eq r10_eq i3e_eq r11_eq r12_eq r13_eq ret_eq nil_eq inBlock_eq exit_eq pure_eq
end watch_Definitely_1

namespace watch_story_next
/-- (*pommel/watch.story).next -/
noncomputable def b : Code := (Try.f73.body).getD .skip
theorem hf : prog.funcs[73]? = some Try.f73 := by kernel_rfl
noncomputable def r0 : Code := findReg b 0
noncomputable def r1 : Code := findReg b 1
noncomputable def r2 : Code := findReg b 2
noncomputable def k0 : Code := findBlk b 0
noncomputable def l0 : Code := loopOf k0
noncomputable def L0 (x0 x3 x5 x6 : AV) (m : Mem) (K : List Item) : Option Res := den prog ann 73 (.code l0 :: .inLoop l0 :: .inBlock 0 :: K) ⟨[(0, x0), (3, x3), (5, x5), (6, x6)], 43, m⟩
noncomputable def r3 : Code := findReg b 3
noncomputable def i0 : Code := findCond b 0
noncomputable def i0t : Code := thenOf i0
noncomputable def i0e : Code := elseOf i0
noncomputable def k1 : Code := findBlk b 1
noncomputable def r5 : Code := findReg b 5
noncomputable def r6 : Code := findReg b 6
noncomputable def r7 : Code := findReg b 7
noncomputable def i1 : Code := findCond b 1
noncomputable def i1t : Code := thenOf i1
noncomputable def i1e : Code := elseOf i1
noncomputable def r8 : Code := findReg b 8
noncomputable def r4 : Code := findReg b 4
noncomputable def r9 : Code := findReg b 9
theorem b_eq (K : List Item) (s : St) : den prog ann 73 (.code b :: K) s = den prog ann 73 (.code r0 :: .code r1 :: .code r2 :: .code k0 :: .code r9 :: .code .ret :: K) s := den_flat hf (l := [r0, r1, r2, k0, r9, .ret]) (by kernel_rfl) K s
theorem r0_eq (K : List Item) (s : St) : den prog ann 73 (.code r0 :: K) s = mreg prog ann 73 none [] none [] [
    ⟨some 3, none, .v fun s => frozenPtr (s.get 1)⟩,
    ⟨some 4, none, .v fun s => some (.nils)⟩] K s := (den_reg hf _ K s).trans (by kernel_rfl)
theorem r1_eq (K : List Item) (s : St) : den prog ann 73 (.code r1 :: K) s = mreg prog ann 73 none [] none [] [
    ⟨some 5, none, .v fun s => some (.nils)⟩] K s := (den_reg hf _ K s).trans (by kernel_rfl)
theorem r2_eq (K : List Item) (s : St) : den prog ann 73 (.code r2 :: K) s = mreg prog ann 73 none [] none [] [
    ⟨some 8, none, .v fun s => some (s.get 0)⟩,
    ⟨some 9, none, .v fun s => nilA (s.get 8)⟩,
    ⟨some 10, none, .v fun s => fieldA 0 (s.get 9)⟩,
    ⟨some 11, none, .v fun s => loadF false 1 (s.get 10)⟩,
    ⟨some 12, none, .v fun s => binA prog .sub 3 (s.get 11) (.int .i64 1)⟩,
    ⟨some 6, none, .v fun s => some (s.get 12)⟩] K s := (den_reg hf _ K s).trans (by kernel_rfl)
theorem k0_eq (K : List Item) (t : List (Nat × AV)) (m : Mem) : den prog ann 73 (.code k0 :: K) ⟨t, 43, m⟩ = L0 (get t 0) (get t 3) (get t 5) (get t 6) m K := den_loop_enter hf (b := l0) (id := 3) (l := [0, 3, 5, 6]) (by kernel_rfl) (by kernel_rfl) (by kernel_rfl) K _
theorem l0_eq (K : List Item) (t : List (Nat × AV)) (m : Mem) : den prog ann 73 (.inLoop l0 :: .inBlock 0 :: K) ⟨t, 43, m⟩ = L0 (get t 0) (get t 3) (get t 5) (get t 6) m K := den_loop_again hf (id := 3) (l := [0, 3, 5, 6]) (by kernel_rfl) (by kernel_rfl) (.inBlock 0 :: K) _
theorem L0_eq (x0 x3 x5 x6 : AV) (m : Mem) (K : List Item) : L0 x0 x3 x5 x6 m K = den prog ann 73 (.code r3 :: .code i0 :: .code k1 :: .code r4 :: .inLoop l0 :: .inBlock 0 :: K) ⟨[(0, x0), (3, x3), (5, x5), (6, x6)], 43, m⟩ := den_flat hf (l := [r3, i0, k1, r4]) (by kernel_rfl) _ _
theorem r3_eq (K : List Item) (s : St) : den prog ann 73 (.code r3 :: K) s = mreg prog ann 73 (some [0, 3, 5, 6]) [] none [] [
    ⟨some 13, none, .v fun s => some (s.get 6)⟩,
    ⟨some 14, none, .v fun s => binA prog .geq 3 (s.get 13) (.int .i64 0)⟩] K s := (den_reg hf _ K s).trans (by kernel_rfl)
theorem i0_eq (K : List Item) (s : St) : den prog ann 73 (.code i0 :: K) s = ifV prog ann 73 14 i0t i0e K s (s.get 14) := den_if hf (by kernel_rfl) K s
theorem i0t_eq (K : List Item) (s : St) : den prog ann 73 (.code i0t :: K) s = den prog ann 73 (K) s := den_flat hf (l := []) (by kernel_rfl) K s
theorem i0e_eq (K : List Item) (s : St) : den prog ann 73 (.code i0e :: K) s = den prog ann 73 (.code (.exit 0) :: K) s := den_flat hf (l := [(.exit 0)]) (by kernel_rfl) K s
theorem k1_eq (K : List Item) (s : St) : den prog ann 73 (.code k1 :: K) s = den prog ann 73 (.code r5 :: .code r6 :: .code r7 :: .code i1 :: .inBlock 1 :: K) s := den_blk hf (b := blkOf k1) (l := [r5, r6, r7, i1]) (by kernel_rfl) (by kernel_rfl) K s
theorem r5_eq (K : List Item) (s : St) : den prog ann 73 (.code r5 :: K) s = mreg prog ann 73 none [] none [] [
    ⟨some 17, none, .v fun s => loadF true 4 (s.get 3)⟩,
    ⟨some 7, none, .w false none fun s => newPtr s.m [.int .i64 0, .int .i64 0, .int .i64 0, .int .i64 0]⟩,
    ⟨none, none, .w false none fun s => stA true 4 s.m (s.get 7) (s.get 17)⟩] K s := (den_reg hf _ K s).trans (by kernel_rfl)
theorem r6_eq (K : List Item) (s : St) : den prog ann 73 (.code r6 :: K) s = mreg prog ann 73 none [] none [] [
    ⟨some 18, none, .v fun s => some (s.get 6)⟩,
    ⟨some 19, none, .v fun s => idxArr 4 1 (s.get 7) (s.get 18)⟩,
    ⟨some 20, none, .v fun s => loadA false 1 s.m (s.get 19)⟩,
    ⟨some 21, none, .v fun s => binA prog .add 3 (s.get 20) (.int .i64 1)⟩,
    ⟨some 22, none, .v fun s => idxArr 4 1 (s.get 7) (s.get 18)⟩,
    ⟨none, none, .w false none fun s => stA false 1 s.m (s.get 22) (s.get 21)⟩] K s := (den_reg hf _ K s).trans (by kernel_rfl)
theorem r7_draw : drawOk (fun g => (ann g).pure) (modeOf (ann 73) (idOf r7)) (frzOf (ann 73) (idOf r7)) (opsOf r7) = true := drawOk_of (an := [0, 1, 3, 0, 0, 8, 40, 120, 248, 511, 1023, 2047, 2047, 8191, 16383]) (by kernel_rfl) (by kernel_rfl)
theorem r7_eq (K : List Item) (s : St) : den prog ann 73 (.code r7 :: K) s = mreg prog ann 73 none [] (some 15) [] [
    ⟨some 23, none, .v fun s => some (s.get 6)⟩,
    ⟨some 24, none, .v fun s => idxArr 4 1 (s.get 7) (s.get 23)⟩,
    ⟨some 25, none, .v fun s => loadA false 1 s.m (s.get 24)⟩,
    ⟨some 26, none, .v fun s => some (s.get 0)⟩,
    ⟨some 27, none, .v fun s => some (s.get 6)⟩,
    ⟨some 28, none, .v fun s => nilA (s.get 26)⟩,
    ⟨some 29, none, .v fun s => fieldA 1 (s.get 28)⟩,
    ⟨some 30, none, .v fun s => idxArr 4 1 (s.get 29) (s.get 27)⟩,
    ⟨some 31, none, .v fun s => loadF false 1 (s.get 30)⟩,
    ⟨some 32, none, .v fun s => binA prog .leq 3 (s.get 25) (s.get 31)⟩,
    ⟨some 33, none, .v fun s => some (s.get 32)⟩,
    ⟨some 34, some (33, true), .v fun s => some (s.get 0)⟩,
    ⟨some 35, some (33, true), .v fun s => loadA true 4 s.m (s.get 7)⟩,
    ⟨some 36, some (33, true), .c 0 (fun s => (.fn 72 [] [])) fun s => [(s.get 34), (s.get 35)]⟩,
    ⟨some 37, none, .v fun s => pickA (s.get 33) (s.get 36) (.bool false)⟩] K s := (den_regD hf r7_draw K s).trans (by kernel_rfl)
theorem i1_eq (K : List Item) (s : St) : den prog ann 73 (.code i1 :: K) s = ifV prog ann 73 37 i1t i1e K s (s.get 37) := den_if hf (by kernel_rfl) K s
theorem i1t_eq (K : List Item) (s : St) : den prog ann 73 (.code i1t :: K) s = den prog ann 73 (.code r8 :: K) s := den_flat hf (l := [r8]) (by kernel_rfl) K s
theorem r8_eq (K : List Item) (s : St) : den prog ann 73 (.code r8 :: K) s = mreg prog ann 73 none [] none [] [
    ⟨some 38, none, .v fun s => some (s.get 5)⟩,
    ⟨some 39, none, .v fun s => loadA true 4 s.m (s.get 7)⟩,
    ⟨some 40, none, .v fun s => bslF 1 (bslA 4 1 [.int .i64 0, .int .i64 0, .int .i64 0, .int .i64 0] [(0, (s.get 39))])⟩,
    ⟨some 41, none, .w false none fun s => appendA 4 32 s.m (s.get 38) (s.get 40)⟩,
    ⟨some 5, none, .v fun s => some (s.get 41)⟩] K s := (den_reg hf _ K s).trans (by kernel_rfl)
theorem i1e_eq (K : List Item) (s : St) : den prog ann 73 (.code i1e :: K) s = den prog ann 73 (K) s := den_flat hf (l := []) (by kernel_rfl) K s
theorem r4_eq (K : List Item) (s : St) : den prog ann 73 (.code r4 :: K) s = mreg prog ann 73 (some [0, 3, 5, 6]) [] none [] [
    ⟨some 15, none, .v fun s => some (s.get 6)⟩,
    ⟨some 16, none, .v fun s => binA prog .sub 3 (s.get 15) (.int .i64 1)⟩,
    ⟨some 6, none, .v fun s => some (s.get 16)⟩] K s := (den_reg hf _ K s).trans (by kernel_rfl)
theorem r9_eq (K : List Item) (s : St) : den prog ann 73 (.code r9 :: K) s = mreg prog ann 73 (some [5]) [] none [] [
    ⟨some 42, none, .v fun s => some (s.get 5)⟩,
    ⟨some 4, none, .v fun s => some (s.get 42)⟩] K s := (den_reg hf _ K s).trans (by kernel_rfl)
theorem ret_eq (K : List Item) (s : St) : den prog ann 73 (.code .ret :: K) s = finM true [fun s => some (s.get 4)] s := (den_ret hf K s).trans (by kernel_rfl)
theorem nil_eq (s : St) : den prog ann 73 [] s = finM true [fun s => some (s.get 4)] s := (den_nil hf s).trans (by kernel_rfl)
theorem inBlock_eq (id : Nat) (K : List Item) (s : St) : den prog ann 73 (.inBlock id :: K) s = den prog ann 73 K s := den_inBlock hf id K s
theorem exit_eq (id : Nat) (K : List Item) (s : St) : den prog ann 73 (.code (.exit id) :: K) s = exitV prog ann 73 (exitTo id K) s := den_exitV hf id K s
theorem call_eq (v0 v1 : AV) (m : Mem) (h : closedL [v0, v1] = true) : denC prog ann 73 [v0, v1] m = (den prog ann 73 [.code b] ⟨[(0, v0), (1, v1)], 43, Mem.empty⟩).bind fun r => some (r.1, m) := (denC_pure hf (b := b) (by kernel_rfl) (by kernel_rfl) (by kernel_rfl) h m).trans (by kernel_rfl)
theorem pure_eq : (ann 73).pure = true := by kernel_rfl
attribute [simp] b_eq r0_eq r1_eq r2_eq k0_eq l0_eq r3_eq i0_eq i0t_eq i0e_eq k1_eq r5_eq r6_eq r7_eq i1_eq i1t_eq r8_eq i1e_eq r4_eq r9_eq ret_eq nil_eq inBlock_eq exit_eq pure_eq
end watch_story_next







end Go.Proofs.Ytdkmepjedjclkaa

/-
  Definitely (1): the cuts with one deed more. Conditions: none.
-/
namespace Go.Proofs.Ytdkmepjedjclkaa
open Go.AM
open Go.Proofs.Try (prog)
set_option linter.all false
set_option maxRecDepth 100000
set_option maxHeartbeats 4000000

/-- A cut with one deed more of a hand. -/
def bump (c : List Int) (h : Nat) : List Int := c.set h (nth c h + 1)
theorem bump_len (c : List Int) (h : Nat) : (bump c h).length = c.length := by simp [bump]
theorem nth_bump {c : List Int} {h : Nat} (hh : h < c.length) (g : Nat) : nth (bump c h) g = if g = h then nth c h + 1 else nth c g := by
  rw [bump, nth_set]
  by_cases e : h = g
  · subst e; simp [hh]
  · have e' : ¬ g = h := fun x => e x.symm
    simp [e, e']
/-- The consistent cuts with one deed more of one of the first k hands, the last hand's first. -/
def stepOk (D4 : List Int) (K : List (List (List Int))) (n : Nat) (c : List Int) (h : Nat) : Bool := decide (nth c h + 1 ≤ nth D4 h) && decide (forthL K n (bump c h) = bump c h)
def nextR (D4 : List Int) (K : List (List (List Int))) (n : Nat) (c : List Int) : Nat → List (List Int)
  | 0 => []
  | k + 1 => (if stepOk D4 K n c k = true then [bump c k] else []) ++ nextR D4 K n c k
def nextV (acc : List (List Int)) : AV := if acc = [] then .nils else .fsl false acc.length (flatC ints acc)
theorem nextV_is (acc : List (List Int)) : IsSl ints (nextV acc) acc := by
  by_cases e : acc = []
  · exact .inl ⟨by rw [nextV, if_pos e], e⟩
  · exact .inr ⟨false, by rw [nextV, if_neg e]⟩

theorem next_loop {V : List AV} {n : Nat} {D4 : List Int} {K : List (List (List Int))} (hV : V.length = 4) (s : IsStory (.fptr (.int .i64 n :: (ints D4 ++ V))) n D4 K) {c : List Int} (hc : IsCut n D4 c) : ∀ (k : Nat) (acc : List (List Int)) (oid : Nat) (m : Mem), k ≤ n → Four acc → acc.length + k ≤ n → OutX m oid acc →
    watch_story_next.L0 (.fptr (.int .i64 n :: (ints D4 ++ V))) (.fptr (ints c)) (outX oid acc) (.int .i64 ((k : Int) - 1)) m [.code watch_story_next.r9, .code .ret] = some (nextV (acc ++ nextR D4 K n c k), Mem.empty) := by
  have hn4 := s.n4
  have hD4 := s.D4
  have hc4 := hc.len
  intro k
  induction k with
  | zero =>
    intro acc oid m h1 h2 h3 h4
    by_cases e : acc = []
    · subst e
      rw [watch_story_next.L0_eq]
      simp [outX, nextR, nextV]
      done
    · obtain ⟨a, b⟩ := h4 e
      have hl := flatC_len (f := ints) (k := 4) (l := acc) (fun x hx => by simp [h2 x hx])
      have htk : (flatC ints acc).take (acc.length * 4) = flatC ints acc := List.take_of_length_le (by omega)
      have hdp : ∀ d, mapO (deep m.h (d + 1)) (flatC ints acc) = some (flatC ints acc) := fun d => flatC_deep _ _ (fun a => by simp) _
      rw [watch_story_next.L0_eq]
      simp [outX, e, nextR, nextV, a, hl, htk, hdp]
      done
  | succ k ih =>
    intro acc oid m h1 h2 h3 h4
    have hk4 : k < 4 := by omega
    have e0 : ((k + 1 : Nat) : Int) - 1 = (k : Int) := by omega
    have hw : IntKind.wrap .i64 ((k : Int) - 1) = (k : Int) - 1 := wrap_id (by omega) (by omega)
    have hlo := hc.lo k
    have hhi := hc.hi k
    have hd6 := s.D6 k
    have hw2 : IntKind.wrap .i64 (nth c k + 1) = nth c k + 1 := wrap_id (by omega) (by omega)
    have hld : (ints D4 ++ V)[k]? = some (.int .i64 (nth D4 k)) := by rw [List.getElem?_append_left (by simp; omega), ints_nth (by omega)]
    have htc : (ints c).take 4 = ints c := List.take_of_length_le (by simp [hc4])
    have hd0 : (ints c).drop 4 = [] := List.drop_of_length_le (by simp [hc4])
    simp at htc hd0
    have hbl : (bump c k).length = 4 := by rw [bump_len, hc4]
    have hset : c.set k (nth c k + 1) = bump c k := rfl
    have htb : (ints (bump c k)).take 4 = ints (bump c k) := List.take_of_length_le (by simp [hbl])
    simp at htb
    have hgb : nth (bump c k) k = nth c k + 1 := by rw [nth_bump (by omega), if_pos rfl]
    have hgk : (ints (bump c k))[k]? = some (.int .i64 (nth c k + 1)) := by rw [ints_nth (by omega), hgb]
    have hga : (ints c)[k]? = some (.int .i64 (nth c k)) := ints_nth (by omega)
    have hnew : ∀ nx, m.nx ≤ nx → OutX ⟨upd m.h m.nx (some (.cells (ints (bump c k)))), nx + 1⟩ oid acc := fun nx hnx hn => by
      obtain ⟨a, b⟩ := h4 hn
      exact ⟨by simp [show (oid == m.nx) = false from beq_eq_false_iff_ne.2 (by omega), a], by show oid < nx + 1; omega⟩
    rw [e0, watch_story_next.L0_eq, nextR]
    by_cases q : nth c k + 1 ≤ nth D4 k
    · have hcut : IsCut n D4 (bump c k) := ⟨hbl, fun g => by rw [nth_bump (by omega)]; split; omega; exact hc.lo g, fun g => by
        rw [nth_bump (by omega)]; split
        · rename_i e; rw [e]; exact q
        · exact hc.hi g⟩
      have hcon := consistent_spec s hcut
      by_cases q2 : forthL K n (bump c k) = bump c k
      · rw [if_pos (by simp [stepOk, q, q2])]
        rw [decide_eq_true q2] at hcon
        have hacl := flatC_len (f := ints) (k := 4) (l := acc) (fun a ha => by simp [h2 a ha])
        have h2' : Four (acc ++ [bump c k]) := fun x hx => by
          rcases List.mem_append.1 hx with h | h
          · exact h2 x h
          · simp at h; rw [h]; exact hbl
        by_cases hn : acc = []
        · subst hn
          have hst := ih [bump c k] (m.nx + 1 + 15) ⟨upd (upd m.h m.nx (some (.cells (ints (bump c k))))) (m.nx + 1 + 15) (some (.cells (ints (bump c k)))), m.nx + 1 + 15 + 1⟩ (by omega) h2' (by simp; omega) (fun _ => ⟨by simp [flatC_one], by show m.nx + 1 + 15 < m.nx + 1 + 15 + 1; omega⟩)
          have e3 : outX (m.nx + 1 + 15) [bump c k] = .sl (m.nx + 1 + 15) 4 0 1 4 := by simp [outX]
          rw [e3] at hst
          rw [List.nil_append, ← hst]
          simp [hc4, htc, hd0, hk4, hga, hw2, hset, hgk, hgb, htb, hbl, hld, q, hcon, hw, outX]
          done
        · obtain ⟨a, b⟩ := h4 hn
          have e1 : (oid == m.nx) = false := beq_eq_false_iff_ne.2 (by omega)
          have e2 : (m.nx == oid) = false := beq_eq_false_iff_ne.2 (by omega)
          have hst := ih (acc ++ [bump c k]) oid ⟨upd (upd m.h m.nx (some (.cells (ints (bump c k))))) oid (some (.cells (flatC ints acc ++ ints (bump c k)))), m.nx + 1 + 15⟩ (by omega) h2' (by simp; omega) (fun _ => ⟨by simp [flatC_append, flatC_one], by show oid < m.nx + 1 + 15; omega⟩)
          have e3 : outX oid (acc ++ [bump c k]) = .sl oid 4 0 (acc.length + 1) (acc.length * 4 + 4) := by simp [outX, Nat.add_mul]
          have e4 : outX oid acc = .sl oid 4 0 acc.length (acc.length * 4) := by simp [outX, hn]
          rw [e3] at hst
          rw [← List.append_assoc, ← hst, e4]
          simp [hc4, htc, hd0, hk4, hga, hw2, hset, hgk, hgb, htb, hbl, hld, q, hcon, hw, e1, e2, a, hacl, show acc.length + 1 ≤ 4611686018427387904 by omega, show acc.length ≤ 4611686018427387903 by omega, show (acc.length + 1) * 32 ≤ 70368744177664 by omega]
          done
      · rw [if_neg (by simp [stepOk, q2])]
        rw [decide_eq_false q2] at hcon
        have hst := ih acc oid ⟨upd m.h m.nx (some (.cells (ints (bump c k)))), m.nx + 1 + 15⟩ (by omega) h2 (by omega) (hnew (m.nx + 15) (by omega))
        rw [List.nil_append, ← hst]
        simp [hc4, htc, hd0, hk4, hga, hw2, hset, hgk, hgb, htb, hbl, hld, q, hcon, hw]
        done
    · rw [if_neg (by simp [stepOk, q])]
      have hst := ih acc oid ⟨upd m.h m.nx (some (.cells (ints (bump c k)))), m.nx + 1 + 15⟩ (by omega) h2 (by omega) (hnew (m.nx + 15) (by omega))
      rw [List.nil_append, ← hst]
      simp [hc4, htc, hd0, hk4, hga, hw2, hset, hgk, hgb, htb, hbl, hld, q, hw]
      done

theorem next_spec {sv : AV} {n : Nat} {D4 : List Int} {K : List (List (List Int))} (s : IsStory sv n D4 K) {c : List Int} (hc : IsCut n D4 c) (m : Mem) : denC prog ann 73 [sv, .agg (ints c)] m = some (nextV (nextR D4 K n c n), m) := by
  have hn4 := s.n4
  obtain ⟨V, e, hV, hS⟩ := s.V
  subst e
  have hw : IntKind.wrap .i64 ((n : Int) - 1) = (n : Int) - 1 := wrap_id (by omega) (by omega)
  have lp := next_loop hV s hc n [] 0 Mem.empty (Nat.le_refl _) (fun c hc => by cases hc) (by simp) (fun h => absurd rfl h)
  rw [show outX 0 [] = .nils by simp [outX], List.nil_append] at lp
  rw [watch_story_next.call_eq _ _ _ (by simp)]
  simp [hw, lp]
end Go.Proofs.Ytdkmepjedjclkaa

/-
  Definitely (2): courses that avoid a set, as a plain law. Conditions: none.
-/
namespace Go.Proofs.Ytdkmepjedjclkaa
open Go.AM
open Go.Proofs.Try (prog)
set_option linter.all false
set_option maxRecDepth 100000

/-- Can the end be reached from a cut, without a cut of the set? -/
inductive Can (D : List Int) (N : List Note) (S : List (List Int)) : List Int → Prop where
  | last (h : D ∈ cutsL D N) (h2 : D ∉ S) : Can D N S D
  | step {c : List Int} {h : Nat} (hc : c ∈ cutsL D N) (h2 : c ∉ S) (hh : h < D.length) (r : Can D N S (bump c h)) : Can D N S c
/-- The way on, each time by the last hand that can. -/
inductive Path (D : List Int) (N : List Note) (S : List (List Int)) : List Int → List (List Int) → Prop where
  | last : Path D N S D [D]
  | step {c : List Int} {h : Nat} {l : List (List Int)} (hc : c ≠ D) (hh : h < D.length) (r : Can D N S (bump c h)) (ng : ∀ g, h < g → g < D.length → ¬ Can D N S (bump c g)) (p : Path D N S (bump c h) l) : Path D N S c (c :: l)

section
variable {D : List Int} {N : List Note} {S : List (List Int)}
theorem Can.mem {c : List Int} (h : Can D N S c) : c ∈ cutsL D N := by cases h <;> assumption
theorem Can.out {c : List Int} (h : Can D N S c) : c ∉ S := by cases h <;> assumption
theorem Can.on {c : List Int} (h : Can D N S c) (hc : c ≠ D) : ∃ h, h < D.length ∧ Can D N S (bump c h) := by
  cases h with
  | last _ _ => exact absurd rfl hc
  | @step _ h _ _ hh r => exact ⟨h, hh, r⟩
theorem Path.uniq {c : List Int} {l l' : List (List Int)} (p : Path D N S c l) (q : Path D N S c l') : l = l' := by
  induction p generalizing l' with
  | last => cases q with
    | last => rfl
    | step hc => exact absurd rfl hc
  | @step c h l hc hh r ng p ih =>
    cases q with
    | last => exact absurd rfl hc
    | @step _ h' l' _ hh' r' ng' p' =>
      rcases Nat.lt_trichotomy h h' with e | e | e
      · exact absurd r' (ng h' e hh')
      · subst e; rw [ih p']
      · exact absurd r (ng' h e hh)
theorem Path.ne {c : List Int} {l : List (List Int)} (p : Path D N S c l) : l ≠ [] := by cases p <;> simp
theorem Path.row {c : List Int} {l : List (List Int)} (p : Path D N S c l) (hc : c.length = D.length) : ∀ x ∈ l, x.length = D.length := by
  induction p with
  | last => intro x hx; simp at hx; rw [hx]
  | step _ _ _ _ _ ih =>
    intro x hx
    rcases List.mem_cons.1 hx with rfl | hx
    · exact hc
    · exact ih (by rw [bump_len]; exact hc) x hx
theorem sum_bump {c : List Int} {h : Nat} (hh : h < c.length) : (bump c h).sum = c.sum + 1 := by
  have := sum_set c h (nth c h + 1) hh
  rw [bump]; omega
theorem Can.sum {c : List Int} (h : Can D N S c) (L : Lims D N) : c.sum ≤ D.sum := by
  induction h with
  | last => exact Int.le_refl _
  | @step c h hc _ hh _ ih =>
    have := sum_bump (c := c) (h := h) (by rw [((mem_cuts L).1 hc).1.len]; exact hh)
    omega

/-! ### Of four numbers, and of as many as there are hands -/
theorem bump_take {c : List Int} {n h : Nat} (hh : h < n) (hl : n ≤ c.length) : (bump c h).take n = bump (c.take n) h := by
  refine ext_nth (by simp [bump]) fun g => ?_
  rw [nth_bump (by simp; omega), nth_take hh]
  rcases Nat.lt_or_ge g n with hg | hg
  · rw [nth_take hg, nth_bump (by omega), nth_take hg]
  · have : ¬ g = h := by omega
    rw [take_out hg, if_neg this, take_out hg]
theorem cut_of_is {c : List Int} (h4 : D.length ≤ 4) (hc : IsCut D.length (pad D) c) : CutL D (c.take D.length) := by
  have hl := hc.len
  refine ⟨by simp; omega, fun h => ?_, fun h => ?_⟩
  · rcases Nat.lt_or_ge h D.length with hh | hh
    · rw [nth_take hh]; exact hc.lo h
    · rw [take_out hh]; exact Int.le_refl _
  · rcases Nat.lt_or_ge h D.length with hh | hh
    · rw [nth_take hh]; have := hc.hi h; rw [nth_pad] at this; exact this
    · rw [take_out hh, nth_out hh]; exact Int.le_refl _
theorem bump_is {c : List Int} (hc : IsCut D.length (pad D) c) {h : Nat} (hh : h < 4) (q : nth c h + 1 ≤ nth (pad D) h) : IsCut D.length (pad D) (bump c h) := by
  have hl := hc.len
  refine ⟨by rw [bump_len, hl], fun g => ?_, fun g => ?_⟩
  · rw [nth_bump (by omega)]; split
    · have := hc.lo h; omega
    · exact hc.lo g
  · rw [nth_bump (by omega)]; split
    · rename_i e; rw [e]; exact q
    · exact hc.hi g
theorem stepOk_iff {K : List (List (List Int))} (k : Clocks D N K) {c : List Int} (hc : IsCut D.length (pad D) c) {h : Nat} (hh : h < D.length) : stepOk (pad D) K D.length c h = true ↔ bump (c.take D.length) h ∈ cutsL D N := by
  have h4 := k.P.L.n4
  have hl := hc.len
  simp only [stepOk, Bool.and_eq_true, decide_eq_true_eq]
  constructor
  · rintro ⟨q1, q2⟩
    have hb := bump_is hc (by omega) q1
    rw [← bump_take hh (by omega)]
    exact (mem_cuts k.P.L).2 ⟨cut_of_is h4 hb, (in_iff k hb).1 q2⟩
  · intro hm
    obtain ⟨a, b⟩ := (mem_cuts k.P.L).1 hm
    have q1 : nth c h + 1 ≤ nth (pad D) h := by
      have := a.hi h
      rw [nth_bump (by simp; omega), if_pos rfl, nth_take hh] at this
      rw [nth_pad]; exact this
    have hb := bump_is hc (by omega) q1
    refine ⟨q1, (in_iff k hb).2 ?_⟩
    rw [bump_take hh (by omega)]; exact b
end
end Go.Proofs.Ytdkmepjedjclkaa

/-
  Definitely (3): the search for a course. Conditions: none.
-/
namespace Go.Proofs.Ytdkmepjedjclkaa
open Go.AM
open Go.Proofs.Try (prog)
set_option linter.all false
set_option maxRecDepth 100000
set_option maxHeartbeats 4000000

theorem u31' : prog.underlying 31 = some (.slice 22) := by kernel_rfl
theorem nil31 : binA prog .neq 31 .nils .nils = some (.bool false) := by simp [binA, eqT, eqA, u31']
theorem nil31' (ex : Bool) (n : Nat) (cs : List AV) : binA prog .neq 31 (.fsl ex n cs) .nils = some (.bool true) := by simp [binA, eqT, eqA, u31']
theorem eil31 : binA prog .eql 31 .nils .nils = some (.bool true) := by simp [binA, eqT, eqA, u31']
theorem eil31' (ex : Bool) (n : Nat) (cs : List AV) : binA prog .eql 31 (.fsl ex n cs) .nils = some (.bool false) := by simp [binA, eqT, eqA, u31']

/-- The search, as a value. -/
def crsV (E : Ents) (id cid : Nat) (sv : AV) : AV := .fn 77 [] [.fptr [mapV E], .sptr [.map id], .fptr [sv], .ptr cid 0 1]
/-- What is known of what is remembered. -/
structure CInv (D : List Int) (N : List Note) (S : List (List Int)) (m : Mem) (E : Ents) (id cid : Nat) (sv : AV) : Prop where
  mp : ∃ g L, m.h id = some (.map g (keysL L) (valsL L)) ∧ Keys4 L ∧ TrueE L ∧ ∀ c, IsCut D.length (pad D) c → inE L c = true → ¬ Can D N S (c.take D.length)
  fn : m.h cid = some (.cells [crsV E id cid sv])
  ne : id ≠ cid
  l1 : id < m.nx
  l2 : cid < m.nx
theorem CInv.more {D : List Int} {N : List Note} {S : List (List Int)} {m : Mem} {E : Ents} {id cid : Nat} {sv : AV} (c : CInv D N S m E id cid sv) {m' : Mem} (h : ∀ i, i < m.nx → m'.h i = m.h i) (hn : m.nx ≤ m'.nx) : CInv D N S m' E id cid sv := by
  obtain ⟨g, L, a, b⟩ := c.mp
  exact ⟨⟨g, L, by rw [h _ c.l1]; exact a, b⟩, by rw [h _ c.l2]; exact c.fn, c.ne, Nat.lt_of_lt_of_le c.l1 hn, Nat.lt_of_lt_of_le c.l2 hn⟩

/-- What the search hands back. -/
def CRes (D : List Int) (N : List Note) (S : List (List Int)) (x : List Int) (v : AV) : Prop :=
  (Can D N S x ∧ ∃ l ex, Path D N S x l ∧ v = .fsl ex l.length (flatC rowC l)) ∨ (¬ Can D N S x ∧ v = .nils)

section
variable {sv : AV} {D : List Int} {N : List Note} {S : List (List Int)} {K : List (List (List Int))} {E : Ents} {id cid : Nat}
/-- The search from a cut, told of its calls for the next cuts. -/
theorem crs_loop (k : Clocks D N K) (s : IsStory sv D.length (pad D) K) {c : List Int} (hc : IsCut D.length (pad D) c) (hm : c.take D.length ∈ cutsL D N) (hS : c.take D.length ∉ S) (hD : c.take D.length ≠ D)
    (rec : ∀ (d : List Int) (m : Mem), IsCut D.length (pad D) d → d.take D.length ∈ cutsL D N → (d.take D.length).sum = (c.take D.length).sum + 1 → CInv D N S m E id cid sv → ∃ v m', denC prog ann 77 [.agg (ints d), .fptr [mapV E], .sptr [.map id], .fptr [sv], .ptr cid 0 1] m = some (v, m') ∧ CInv D N S m' E id cid sv ∧ CRes D N S (d.take D.length) v) :
    ∀ (j i : Nat) (m : Mem), j ≤ D.length → (nextR (pad D) K D.length c D.length).drop i = nextR (pad D) K D.length c j → (∀ g, j ≤ g → g < D.length → ¬ Can D N S (bump (c.take D.length) g)) → CInv D N S m E id cid sv →
    ∃ v m', watch_Definitely_1.L0 (.sptr [.map id]) (.fptr [sv]) (.ptr cid 0 1) (.fptr (ints c)) (nextV (nextR (pad D) K D.length c D.length)) (.int .i64 (nextR (pad D) K D.length c D.length).length) (.int .i64 i) m [.code watch_Definitely_1.r12, .code watch_Definitely_1.r13, .code .ret] = some (v, m') ∧ CInv D N S m' E id cid sv ∧ CRes D N S (c.take D.length) v := by
  have hn4 := s.n4
  have hc4 := hc.len
  have hfz := s.frz
  have htc : (ints c).take 4 = ints c := List.take_of_length_le (by simp [hc4])
  simp at htc
  generalize hNL : nextR (pad D) K D.length c D.length = NL
  have hav := nextV_is NL
  have hln : ∀ (j : Nat), (nextR (pad D) K D.length c j).length ≤ j := by
    intro j
    induction j with
    | zero => simp [nextR]
    | succ j ih => rw [nextR, List.length_append]; split <;> simp <;> omega
  have hNl : NL.length ≤ 4 := by rw [← hNL]; have := hln D.length; omega
  intro j
  induction j with
  | zero =>
    intro i m h1 h2 h3 ci
    have hi : NL.length ≤ i := by
      have := congrArg List.length h2
      simp [nextR] at this; omega
    have hno : ¬ Can D N S (c.take D.length) := fun x => by
      obtain ⟨h, hh, r⟩ := x.on hD
      exact h3 h (by omega) hh r
    obtain ⟨g, L, a1, a2, a3, a4⟩ := ci.mp
    have hu := upd99 (v := .bool true) a1 a2 hc4
    refine ⟨.nils, ⟨upd m.h id (some (.map (g + 1) (keysL (setL L c (.bool true))) (valsL (setL L c (.bool true))))), m.nx⟩, ?_, ⟨⟨g + 1, setL L c (.bool true), by simp, setL_keys4 a2 hc4, setL_true a3, fun d hd hin => ?_⟩, by simp [show (cid == id) = false from beq_eq_false_iff_ne.2 (fun x => ci.ne x.symm), ci.fn], ci.ne, ci.l1, ci.l2⟩, .inr ⟨hno, rfl⟩⟩
    · rw [watch_Definitely_1.L0_eq]
      simp [show ¬ i < NL.length by omega, hc4, htc, hu, Mem.set]
      done
    · rw [inE, lk_set] at hin
      by_cases q : c = d
      · rw [← q]; exact hno
      · rw [if_neg q] at hin; exact a4 d hd hin
  | succ j ih =>
    intro i m h1 h2 h3 ci
    by_cases q : stepOk (pad D) K D.length c j = true
    · have hmem := (stepOk_iff k hc (h := j) (by omega)).1 q
      simp only [nextR, if_pos q, List.singleton_append] at h2
      have hi : i < NL.length := by
        rcases Nat.lt_or_ge i NL.length with h | h
        · exact h
        · rw [List.drop_of_length_le h] at h2; cases h2
      have hd : NL.drop i = cth NL i :: NL.drop (i + 1) := by
        obtain ⟨g1, g2⟩ := List.getElem?_eq_some_iff.1 (cth_eq hi)
        rw [List.drop_eq_getElem_cons g1, g2]
      rw [hd] at h2
      obtain ⟨hce, hdr⟩ := List.cons.inj h2
      have q1 : nth c j + 1 ≤ nth (pad D) j := by
        simp only [stepOk, Bool.and_eq_true, decide_eq_true_eq] at q; exact q.1
      have hb := bump_is hc (h := j) (by omega) q1
      have hbt : (bump c j).take D.length = bump (c.take D.length) j := bump_take (by omega) (by omega)
      have hbm : (bump c j).take D.length ∈ cutsL D N := by rw [hbt]; exact hmem
      have hA : Four NL := fun d hd => by
        have key : ∀ j, ∀ d ∈ nextR (pad D) K D.length c j, d.length = 4 := by
          intro j
          induction j with
          | zero => intro d hd; cases hd
          | succ j ih =>
            intro d hd
            rw [nextR] at hd
            rcases List.mem_append.1 hd with h | h
            · split at h
              · simp at h; rw [h, bump_len]; exact hc4
              · cases h
            · exact ih d h
        rw [← hNL] at hd; exact key _ d hd
      have hidx := hav.idx hA.cells hi .i64
      have hld := load_cut hA hi
      rw [hce] at hld
      have hb4 : (bump c j).length = 4 := hb.len
      have htb : (ints (bump c j)).take 4 = ints (bump c j) := List.take_of_length_le (by simp [hb4])
      simp at htb
      obtain ⟨v, m1, e1, ci1, r1⟩ := rec (bump c j) ⟨upd m.h m.nx none, m.nx + 1⟩ hb hbm (by rw [hbt, sum_bump (by simp; omega)]) (ci.more (fun i hi => by simp [show (i == m.nx) = false from beq_eq_false_iff_ne.2 (by omega)]) (by simp))
      have hcn : (cid == m.nx) = false := beq_eq_false_iff_ne.2 (by have := ci.l2; omega)
      have hfnc := ci.fn
      have hpu : (ann 77).pure = false := by kernel_rfl
      have hwr : IntKind.wrap .i64 ((i : Int) + 1) = (i : Int) + 1 := wrap_id (by omega) (by omega)
      rcases r1 with ⟨rc, l, ex, rp, rfl⟩ | ⟨rn, rfl⟩
      · have hlist := list_fix s hc4
        rw [hbt] at rc rp
        have hcan : Can D N S (c.take D.length) := .step hm hS (h := j) (by omega) rc
        have hpath : Path D N S (c.take D.length) (c.take D.length :: l) := .step hD (by omega) rc (fun g hg hgd => h3 g (by omega) hgd) rp
        have hll : l.length ≤ 25 := by
          have key : ∀ (x : List Int) (l : List (List Int)), Path D N S x l → x ∈ cutsL D N → (l.length : Int) + x.sum ≤ D.sum + 1 := by
            intro x l p
            induction p with
            | last => intro _; simp; omega
            | @step c h l hc hh r ng p ih =>
              intro hm
              have := ih r.mem
              have hl := ((mem_cuts k.P.L).1 hm).1.len
              have := sum_bump (c := c) (h := h) (by omega)
              simp; omega
          have a := key _ _ rp rc.mem
          have b := sum_six D hn4 k.P.L.hi
          have c0 : 0 ≤ (bump (c.take D.length) j).sum := by
            have hcl := ((mem_cuts k.P.L).1 rc.mem).1
            have : ∀ (y : List Int), (∀ g, 0 ≤ nth y g) → 0 ≤ y.sum := by
              intro y
              induction y with
              | nil => intro _; simp
              | cons z y ih =>
                intro h
                have h0 : 0 ≤ z := h 0
                have := ih fun g => h (g + 1)
                simp; omega
            exact this _ hcl.lo
          omega
        have htl : (c.take D.length).length = D.length := by simp [hc4]; omega
        have hflr : (flatC rowC l).length = l.length := flatC_row_len l
        have hcl : closedL (flatC rowC l) = true := flatC_closedL (fun _ => rfl) l
        have hrow : AV.fsl false (l.length + 1) (.fsl false D.length (ints (c.take D.length)) :: flatC rowC l) = .fsl false (c.take D.length :: l).length (flatC rowC (c.take D.length :: l)) := by rw [flatC_cons]; simp only [rowC, htl]; rfl
        have htk2 : (AV.fsl false D.length (ints (c.take D.length)) :: flatC rowC l).take (l.length + 1) = .fsl false D.length (ints (c.take D.length)) :: flatC rowC l := List.take_of_length_le (by simp [hflr])
        have htk3 : (flatC rowC l).take l.length = flatC rowC l := List.take_of_length_le (by omega)
        have hne0 : ¬ l.length = 0 := fun h => rp.ne (List.length_eq_zero_iff.1 h)
        have hne0b : (l.length == 0) = false := beq_eq_false_iff_ne.2 hne0
        refine ⟨.fsl false (c.take D.length :: l).length (flatC rowC (c.take D.length :: l)), ⟨upd (upd m1.h m1.nx none) m1.nx none, m1.nx + 1⟩, ?_, ci1.more (fun i hi => by simp [show (i == m1.nx) = false from beq_eq_false_iff_ne.2 (by omega)]) (by simp), .inl ⟨hcan, _, false, hpath, rfl⟩⟩
        rw [← hrow]
        generalize c.take D.length = x at hlist htl ⊢
        rw [watch_Definitely_1.L0_eq]
        simp [hi, hidx, hld, hb4, htb, hcn, hfnc, crsV, hpu, e1, nil31', hc4, htc, hfz, hlist, s.closed, hne0b, hflr, hcl, htk2, htk3, show 1 + l.length = l.length + 1 by omega, show l.length + 1 ≤ 4611686018427387904 by omega, show (l.length + 1) * 24 ≤ 70368744177664 by omega]
        done
      · rw [hbt] at rn
        obtain ⟨v, m2, e2, ci2, r2⟩ := ih (i + 1) m1 (by omega) hdr (fun g hg hgd => by
          by_cases e : g = j
          · rw [e]; exact rn
          · exact h3 g (by omega) hgd) ci1
        refine ⟨v, m2, ?_, ci2, r2⟩
        simp only [Int.natCast_add, Int.cast_ofNat_Int] at e2
        rw [← e2, watch_Definitely_1.L0_eq]
        simp [hi, hidx, hld, hb4, htb, hcn, hfnc, crsV, hpu, e1, nil31, hwr]
        done
    · have hnot : ¬ Can D N S (bump (c.take D.length) j) := fun x => q ((stepOk_iff k hc (by omega)).2 x.mem)
      simp only [nextR, if_neg q, List.nil_append] at h2
      exact ih i m (by omega) h2 (fun g hg hgd => by
        by_cases e : g = j
        · rw [e]; exact hnot
        · exact h3 g (by omega) hgd) ci
end
end Go.Proofs.Ytdkmepjedjclkaa

/-
  Definitely (4): WHAT IT HANDS BACK. Conditions: none.
-/
namespace Go.Proofs.Ytdkmepjedjclkaa
open Go.AM
open Go.Proofs.Try (prog)
set_option linter.all false
set_option maxRecDepth 100000
set_option maxHeartbeats 4000000

theorem lookIn {L : Ents} {c : List Int} {m : Mem} {id g : Nat} (hm : m.h id = some (.map g (keysL L) (valsL L))) (h : Keys4 L) (hT : TrueE L) (hc : c.length = 4) : lookP prog m 99 (.bool false) (.map id) (.agg (ints c)) false = some (.bool (inE L c)) :=
  (lookM99 hm h hc _ _).trans (congrArg some (inE_look hT))
theorem lookInV {L : Ents} {c : List Int} (m : Mem) (h : Keys4 L) (hT : TrueE L) (hc : c.length = 4) : lookP prog m 99 (.bool false) (mapV L) (.agg (ints c)) false = some (.bool (inE L c)) :=
  (look99 h hc m _ _).trans (congrArg some (inE_look hT))

section
variable {sv : AV} {D : List Int} {N : List Note} {S : List (List Int)} {K : List (List (List Int))} {E : Ents} {id cid : Nat}
theorem crs_body (k : Clocks D N K) (s : IsStory sv D.length (pad D) K) (hE : Keys4 E) (hT : TrueE E) (hin : ∀ c, IsCut D.length (pad D) c → inE E c = decide (c.take D.length ∈ S)) {c : List Int} (hc : IsCut D.length (pad D) c) (hm : c.take D.length ∈ cutsL D N)
    (rec : c.take D.length ≠ D → ∀ (d : List Int) (m : Mem), IsCut D.length (pad D) d → d.take D.length ∈ cutsL D N → (d.take D.length).sum = (c.take D.length).sum + 1 → CInv D N S m E id cid sv → ∃ v m', denC prog ann 77 [.agg (ints d), .fptr [mapV E], .sptr [.map id], .fptr [sv], .ptr cid 0 1] m = some (v, m') ∧ CInv D N S m' E id cid sv ∧ CRes D N S (d.take D.length) v)
    (m : Mem) (ci : CInv D N S m E id cid sv) :
    ∃ v m', denC prog ann 77 [.agg (ints c), .fptr [mapV E], .sptr [.map id], .fptr [sv], .ptr cid 0 1] m = some (v, m') ∧ CInv D N S m' E id cid sv ∧ CRes D N S (c.take D.length) v := by
  have hn4 := s.n4
  have hfz := s.frz
  have hc4 := hc.len
  have htc : (ints c).take 4 = ints c := List.take_of_length_le (by simp [hc4])
  simp at htc
  have hv := lookInV m hE hT hc4
  obtain ⟨g, L, a1, a2, a3, a4⟩ := ci.mp
  have hl := lookIn a1 a2 a3 hc4
  have hmo : (mapV E).one = true := rfl
  by_cases q1 : c.take D.length ∈ S
  · rw [hin c hc, decide_eq_true q1] at hv
    refine ⟨.nils, m, ?_, ci, .inr ⟨fun x => x.out q1, rfl⟩⟩
    rw [watch_Definitely_1.call_eq]
    simp [hc4, htc, hv]
    done
  · rw [hin c hc, decide_eq_false q1] at hv
    cases q2 : inE L c with
    | true =>
      rw [q2] at hl
      refine ⟨.nils, m, ?_, ci, .inr ⟨a4 c hc q2, rfl⟩⟩
      rw [watch_Definitely_1.call_eq]
      simp [hc4, htc, hv, hl]
      done
    | false =>
      rw [q2] at hl
      have hD4 := s.D4
      have hlist := list_fix s hc4
      have hnext := next_spec s hc
      have hsc := s.closed
      have hcm := ci.more (m' := ⟨m.h, m.nx + 6⟩) (fun _ _ => rfl) (by simp)
      obtain ⟨V, hsv, hV, hS⟩ := s.V
      have htD : (ints (pad D) ++ V).take 4 = ints (pad D) := List.take_left' (by simp [hD4])
      have hlD : 4 ≤ (ints (pad D)).length + V.length := by simp [hD4]
      have heq := eql99 hc4 hD4
      by_cases q3 : c = pad D
      · have hxD : c.take D.length = D := by rw [q3]; exact pad_take rfl
        rw [decide_eq_true q3] at heq
        have hmD := hm
        have q1D := q1
        rw [hxD] at hmD q1D
        have hcan : Can D N S D := .last hmD q1D
        refine ⟨.fsl true 1 [.fsl false D.length (ints (c.take D.length))], ⟨m.h, m.nx + 6⟩, ?_, hcm, .inl ⟨by rw [hxD]; exact hcan, [D], true, by rw [hxD]; exact .last, by rw [hxD]; rfl⟩⟩
        rw [watch_Definitely_1.call_eq]
        generalize c.take D.length = x at hlist
        rw [hsv] at hlist hfz hsc ⊢
        simp [hc4, htc, hv, hl, htD, hD4, hlD, heq, hlist, hfz]
        done
      · have hxD : c.take D.length ≠ D := fun h => q3 (by rw [← take_pad rfl hc hn4, h])
        rw [decide_eq_false q3] at heq
        have hav := nextV_is (nextR (pad D) K D.length c D.length)
        obtain ⟨v, m', e1, ci', r'⟩ := crs_loop k s hc hm q1 hxD (rec hxD) D.length 0 ⟨m.h, m.nx + 6⟩ (Nat.le_refl _) (by simp) (fun g hg hgd => by omega) hcm
        refine ⟨v, m', ?_, ci', r'⟩
        simp only [Int.cast_ofNat_Int, Int.ofNat_zero] at e1
        rw [watch_Definitely_1.call_eq, ← e1]
        generalize nextR (pad D) K D.length c D.length = NL at hnext hav ⊢
        rw [hsv] at hnext hfz hsc ⊢
        simp [hc4, htc, hv, hl, htD, hD4, hlD, heq, hnext, hfz, hav.len]
        done

theorem crs_spec (k : Clocks D N K) (s : IsStory sv D.length (pad D) K) (hE : Keys4 E) (hT : TrueE E) (hin : ∀ c, IsCut D.length (pad D) c → inE E c = decide (c.take D.length ∈ S)) : ∀ (f : Nat) (c : List Int) (m : Mem), IsCut D.length (pad D) c → c.take D.length ∈ cutsL D N → D.sum ≤ (c.take D.length).sum + f → CInv D N S m E id cid sv →
    ∃ v m', denC prog ann 77 [.agg (ints c), .fptr [mapV E], .sptr [.map id], .fptr [sv], .ptr cid 0 1] m = some (v, m') ∧ CInv D N S m' E id cid sv ∧ CRes D N S (c.take D.length) v := by
  intro f
  induction f with
  | zero =>
    intro c m hc hm hf ci
    have hcl := ((mem_cuts k.P.L).1 hm).1
    have hcD : c.take D.length = D := sum_eq _ _ hcl.len hcl.hi (by omega)
    exact crs_body k s hE hT hin hc hm (fun h => absurd hcD h) m ci
  | succ f ih =>
    intro c m hc hm hf ci
    exact crs_body k s hE hT hin hc hm (fun _ d m hd hdm hds cd => ih d m hd hdm (by omega) cd) m ci
end

/-- What Definitely hands back. -/
inductive DefRes (D : List Int) (N : List Note) (L : List (List Int)) : AV → Int → Prop where
  | bad (h : ¬ ValidS D N) : DefRes D N L .nils 1
  | long (v : ValidS D N) (h : 2500 < L.length) : DefRes D N L .nils 3
  | form (v : ValidS D N) (h : L.length ≤ 2500) (h2 : L.all (cutB D) = false) : DefRes D N L .nils 2
  | none (v : ValidS D N) (h : L.length ≤ 2500) (h2 : L.all (cutB D) = true) (e : ¬ Can D N L (List.replicate D.length 0)) : DefRes D N L .nils 5
  | ok {ex : Bool} {l : List (List Int)} (v : ValidS D N) (h : L.length ≤ 2500) (h2 : L.all (cutB D) = true) (e : Can D N L (List.replicate D.length 0)) (p : Path D N L (List.replicate D.length 0) l) : DefRes D N L (.fsl ex l.length (flatC rowC l)) 0

theorem defV_spec {v vL : AV} {D : List Int} {N : List Note} {cs : List AV} {L : List (List Int)} (hs : IsTale v D N) (hl : D.length < 100000) (hn : N.length < 100000) (hL : IsVec IsInts vL cs L) (hLl : L.length < 1000000) (hw : ∀ i, i < L.length → (gth L i).length < 1000000) :
    ∃ x e, DefRes D N L x e ∧ ∀ m, denC prog ann 39 [v, vL] m = some (.tup [x, .int .i64 e], m) := by
  obtain ⟨x, y, e, hr, er⟩ := setOf_spec hs hl hn hL hLl hw
  obtain ⟨vD, vN, rfl, h1, h2⟩ := hs.ex
  have hcl : closedL [.agg [vD, vN], vL] = true := by simp [h1.closed, h2.closed, hL.closed]
  cases hr with
  | bad h =>
    refine ⟨_, _, .bad h, fun m => ?_⟩
    rw [watch_Definitely.call_eq _ _ _ hcl]
    simp [h1.one, h2.one, h1.closed, h2.closed, hL.closed, er]
    done
  | long v h =>
    refine ⟨_, _, .long v h, fun m => ?_⟩
    rw [watch_Definitely.call_eq _ _ _ hcl]
    simp [h1.one, h2.one, h1.closed, h2.closed, hL.closed, er]
    done
  | form v h h' =>
    refine ⟨_, _, .form v h h', fun m => ?_⟩
    rw [watch_Definitely.call_eq _ _ _ hcl]
    simp [h1.one, h2.one, h1.closed, h2.closed, hL.closed, er]
    done
  | @ok sv K val h h' k s =>
    have hn4 := s.n4
    have hE : Keys4 (setE L []) := setE_keys (fun e he => by cases he) fun r hr => by rw [(all_cutB h' r hr).len]; exact hn4
    have hT : TrueE (setE L []) := setE_true (fun e he => by cases he)
    have hmc : (mapV (setE L [])).closed = true := rfl
    have hmo : (mapV (setE L [])).one = true := rfl
    have hmce : (mapV (setE L [])).cells = [mapV (setE L [])] := rfl
    have hz : ([0, 0, 0, 0] : List Int) = List.replicate 4 0 := rfl
    have hzc : IsCut D.length (pad D) [0, 0, 0, 0] := ⟨rfl, fun h => by rw [hz, nth_zero']; exact Int.le_refl _, fun h => by rw [hz, nth_zero']; exact s.pos h⟩
    have hzt : ([0, 0, 0, 0] : List Int).take D.length = List.replicate D.length 0 := by rw [hz, List.take_replicate]; congr 1; omega
    have hs6 := sum_six D hn4 k.P.L.hi
    have hsum0 : (List.replicate D.length (0 : Int)).sum = 0 := by simp
    have ci0 : CInv D N L ⟨upd (upd (upd (upd (upd (upd Mem.empty.h 0 none) 1 none) 2 (some (.map 0 [] []))) 3 none) 4 (some (.cells [.nilf]))) 4 (some (.cells [crsV (setE L []) 2 4 x])), 5⟩ (setE L []) 2 4 x := by
      refine ⟨⟨0, [], by simp [keysL, valsL], (fun e he => by cases he), (fun e he => by cases he), (fun c _ hin => by simp [inE, lkL] at hin)⟩, by simp, by omega, by show 2 < 5; omega, by show 4 < 5; omega⟩
    obtain ⟨w, m', ew, _, rw'⟩ := crs_spec k s hE hT (fun c hc => inE_set hn4 h' hc) 24 [0, 0, 0, 0] _ hzc (by rw [hzt]; exact zeros_cut k.P.L k.P) (by rw [hzt, hsum0]; omega) ci0
    rw [hzt] at rw'
    have hpu : (ann 77).pure = false := by kernel_rfl
    have hso := s.one
    have hsc := s.closed
    have hsce : x.cells = [x] := by obtain ⟨V, rfl, _⟩ := s.V; rfl
    simp [crsV, ints] at ew
    rcases rw' with ⟨rc, l, ex, rp, rfl⟩ | ⟨rn, rfl⟩
    · refine ⟨_, _, .ok (ex := ex) val h h' rc rp, fun m => ?_⟩
      rw [watch_Definitely.call_eq _ _ _ hcl]
      simp [h1.one, h2.one, h1.closed, h2.closed, hL.closed, er, hmc, hmo, hmce, hso, hsc, hsce, hpu, ew, eil31']
      done
    · refine ⟨_, _, .none val h h' rn, fun m => ?_⟩
      rw [watch_Definitely.call_eq _ _ _ hcl]
      simp [h1.one, h2.one, h1.closed, h2.closed, hL.closed, er, hmc, hmo, hmce, hso, hsc, hsce, hpu, ew, eil31]
      done
end Go.Proofs.Ytdkmepjedjclkaa

/-
  THE REFERENCE's SMALL FUNCTIONS ON CUTS: has, name, more, SameLists. Conditions: none.
-/
namespace Go.Proofs.Ytdkmepjedjclkaa
open Go.AM
open Go.Proofs.Try (prog)
set_option linter.all false
set_option maxRecDepth 100000
set_option maxHeartbeats 4000000

/-- All rows are short. -/
def Short (L : List (List Int)) : Prop := ∀ i, i < L.length → (gth L i).length < 1000000

/-! ### Names -/
def u8w (v : Int) : Int := IntKind.wrap .u8 v
def nameS (l : List Int) : List UInt8 := l.map fun v => UInt8.ofNat (u8w v).toNat
def nameC (l : List Int) : List AV := l.map fun v => .int .u8 (u8w v)
/-- A cut with one deed less of a hand; of none, if the number is no hand's. -/
def lessL (l : List Int) (h : Int) : List Int := if h < 0 then l else l.set h.toNat (nth l h.toNat - 1)
theorem u8w_id {v : Int} (h0 : 0 ≤ v) (h1 : v ≤ 255) : u8w v = v := by
  simp only [u8w, IntKind.wrap, IntKind.min, IntKind.max, IntKind.signed, IntKind.bits]
  simp
  omega
theorem nameS_inj : ∀ {a b : List Int}, a.length = b.length → (∀ i, 0 ≤ nth a i ∧ nth a i ≤ 255) → (∀ i, 0 ≤ nth b i ∧ nth b i ≤ 255) → nameS a = nameS b → a = b
  | [], [], _, _, _, _ => rfl
  | x :: a, y :: b, hl, ha, hb, h => by
    simp only [nameS, List.map_cons, List.cons.injEq] at h
    obtain ⟨h1, h2⟩ := h
    have hx : 0 ≤ x ∧ x ≤ 255 := ha 0
    have hy : 0 ≤ y ∧ y ≤ 255 := hb 0
    rw [u8w_id hx.1 hx.2, u8w_id hy.1 hy.2] at h1
    have e := congrArg UInt8.toNat h1
    simp only [UInt8.toNat_ofNat'] at e
    have : x = y := by omega
    rw [this, nameS_inj (a := a) (b := b) (by simpa using hl) (fun i => ha (i + 1)) (fun i => hb (i + 1)) h2]
  | [], _ :: _, hl, _, _, _ => by simp at hl
  | _ :: _, [], hl, _, _, _ => by simp at hl

/-! ### The same lists -/
theorem vec_nil {R : AV → List Int → Prop} : IsVec R .nils [] [] := ⟨rfl, (fun i hi => by simp at hi), rfl, .inl ⟨rfl, rfl⟩⟩
end Go.Proofs.Ytdkmepjedjclkaa

/-
  BODIES OF FUNCTIONS OF THE PROGRAM AS SMALL OPERATIONS (written by gen.py; checked by the kernel against the program). Conditions: none.
-/
namespace Go.Proofs.Ytdkmepjedjclkaa
open Go.AM
open Go.Proofs.Try (prog)
set_option maxRecDepth 100000
set_option linter.all false

end Go.Proofs.Ytdkmepjedjclkaa

/-
  WatchLattice RETURNS TRUE. Conditions: none.
-/
namespace Go.Proofs.Ytdkmepjedjclkaa
open Go.AM
open Go.Proofs.Try (prog)
set_option linter.all false
set_option maxRecDepth 100000
set_option maxHeartbeats 4000000

end Go.Proofs.Ytdkmepjedjclkaa

/-
  THE PLAIN LAW (6): the cuts stand in order; a consistent cut is the join of clocks. Conditions: none.
-/
namespace Go.Proofs.Ytdkmepjedjclkaa
open Go.AM
open Go.Proofs.Try (prog)
set_option linter.all false
set_option maxRecDepth 10000

theorem lexLt_irr : ∀ a : List Int, lexLt a a = false
  | [] => rfl
  | a :: x => by simp [lexLt, lexLt_irr x]
theorem tuples_sorted : ∀ D : List Int, (tuplesL D).Pairwise (fun a b => lexLt a b = true)
  | [] => by simp [tuplesL]
  | d :: D => by
    simp only [tuplesL]
    rw [List.pairwise_flatMap]
    refine ⟨fun i _ => ?_, ?_⟩
    · rw [List.pairwise_map]
      exact (tuples_sorted D).imp fun h => by simpa [lexLt] using h
    · refine List.pairwise_lt_range.imp fun {i j} hij a ha b hb => ?_
      simp only [List.mem_map] at ha hb
      obtain ⟨a', _, rfl⟩ := ha
      obtain ⟨b', _, rfl⟩ := hb
      have h1 : ¬ (i : Int) = j := by omega
      simp only [lexLt, h1, if_false, decide_eq_true_eq]
      omega
theorem cuts_sorted (D : List Int) (N : List Note) : (cutsL D N).Pairwise (fun a b => lexLt a b = true) := (tuples_sorted D).filter _

/-- The join of the clocks of the hands' last deeds: from hand h on, k hands. -/
def joinR (K : List (List (List Int))) (n : Nat) (l : List Int) : Nat → Nat → List Int → List Int
  | 0, _, out => out
  | k + 1, h, out => joinR K n l k (h + 1) (if 0 < nth l h then zmax out ((clk K h ((nth l h).toNat - 1)).take n) else out)

section
variable {D : List Int} {N : List Note} {K : List (List (List Int))}
end
end Go.Proofs.Ytdkmepjedjclkaa

/-
  THE PLAIN LAW (7): the cuts at which all hands say yes are closed under meet and join; the least of them comes first. Conditions: none.
-/
namespace Go.Proofs.Ytdkmepjedjclkaa
open Go.AM
open Go.Proofs.Try (prog)
set_option linter.all false
set_option maxRecDepth 100000

section
variable {D : List Int} {N : List Note} {F : List (List Bool)}
end

end Go.Proofs.Ytdkmepjedjclkaa

/-
  THE REFERENCE's Definitely (1): from which cuts the end is reached. Conditions: none.
-/
namespace Go.Proofs.Ytdkmepjedjclkaa
open Go.AM
open Go.Proofs.Try (prog)
set_option linter.all false
set_option maxRecDepth 100000
set_option maxHeartbeats 4000000

abbrev EntS := List (List UInt8 × AV)
def keysS (L : EntS) : List AV := L.map fun e => .str e.1
def valsS (L : EntS) : List AV := L.map (·.2)
def lkS : EntS → List UInt8 → Option AV
  | [], _ => none
  | e :: L, c => if e.1 = c then some e.2 else lkS L c
def setS : EntS → List UInt8 → AV → EntS
  | [], c, v => [(c, v)]
  | e :: L, c, v => if e.1 = c then (c, v) :: L else e :: setS L c v
theorem lk_setS : ∀ (L : EntS) (c : List UInt8) (v : AV) (d : List UInt8), lkS (setS L c v) d = if c = d then some v else lkS L d
  | [], c, v, d => by simp [setS, lkS]
  | e :: L, c, v, d => by
    rw [setS]
    by_cases q : e.1 = c
    · rw [if_pos q, lkS, lkS]
      by_cases q2 : c = d
      · rw [if_pos q2, if_pos q2]
      · rw [if_neg q2, if_neg q2, if_neg (by rw [q]; exact q2)]
    · rw [if_neg q, lkS, lkS, lk_setS L c v d]
      by_cases q2 : e.1 = d
      · rw [if_pos q2, if_pos q2, if_neg (fun x => q (q2.trans x.symm))]
      · rw [if_neg q2, if_neg q2]
def orZ (z : AV) : Option AV → AV
  | some v => v
  | none => z
/-! ### From which cuts the end is reached -/
open Classical in
noncomputable def canB (D : List Int) (N : List Note) (S : List (List Int)) (x : List Int) : Bool := decide (Can D N S x)
section
variable {D : List Int} {N : List Note} {S : List (List Int)}
theorem canB_no {x : List Int} (h : ¬ Can D N S x) : canB D N S x = false := by simp [canB, h]
theorem lex_bump : ∀ {x : List Int} {g : Nat}, g < x.length → lexLt x (bump x g) = true
  | a :: x, 0, _ => by
    have h1 : ¬ a = a + 1 := by omega
    have h2 : a < a + 1 := by omega
    simp [bump, nth, lexLt, h1, h2]
  | a :: x, g + 1, h => by
    have ih := lex_bump (x := x) (g := g) (by simpa using h)
    have e : bump (a :: x) (g + 1) = a :: bump x g := rfl
    rw [e]; simpa [lexLt] using ih
theorem bump_later {i : Nat} (hi : i < (cutsL D N).length) {g : Nat} (hg : g < D.length) (hb : bump (cutsL D N)[i] g ∈ cutsL D N) : bump (cutsL D N)[i] g ∈ (cutsL D N).drop (i + 1) := by
  have hs := cuts_sorted D N
  have hrow := cutsL_row (List.getElem_mem hi)
  have hlt := lex_bump (x := (cutsL D N)[i]) (g := g) (by omega)
  obtain ⟨j, hj, hjb⟩ := List.getElem_of_mem hb
  have hij : i < j := by
    rcases Nat.lt_trichotomy i j with q | q | q
    · exact q
    · subst q; rw [← hjb, lexLt_irr] at hlt; cases hlt
    · have := List.pairwise_iff_getElem.1 hs j i hj hi q
      rw [hjb] at this
      have hh := lexLt_same (cutsL D N)[i] (bump (cutsL D N)[i] g)
      -- both ways
      exact absurd this (by
        have key : ∀ a b : List Int, lexLt a b = true → lexLt b a = false := by
          intro a
          induction a with
          | nil => intro b h; cases b <;> simp [lexLt] at h ⊢
          | cons x a ih =>
            intro b h
            cases b with
            | nil => simp [lexLt] at h
            | cons y b =>
              simp only [lexLt] at h ⊢
              by_cases e : x = y
              · subst e; simp at h ⊢; exact ih b h
              · have e' : ¬ y = x := fun z => e z.symm
                simp [e, e'] at h ⊢; omega
        rw [key _ _ hlt]; simp)
  rw [← hjb, List.mem_drop_iff_getElem]
  exact ⟨j - (i + 1), by omega, by congr 1; omega⟩

/-- A list that is named as a cut is. -/
structure Named (D x : List Int) : Prop where
  len : x.length = D.length
  b : ∀ g, 0 ≤ nth x g ∧ nth x g ≤ 255
theorem cut_named (L : Lims D N) {x : List Int} (h : x ∈ cutsL D N) : Named D x := by
  obtain ⟨c, _⟩ := (mem_cuts L).1 h
  exact ⟨c.len, fun g => ⟨c.lo g, by have := c.hi g; have := L.hi g; omega⟩⟩
theorem bump_named (L : Lims D N) {x : List Int} (h : x ∈ cutsL D N) {g : Nat} (hg : g < D.length) : Named D (bump x g) := by
  obtain ⟨c, _⟩ := (mem_cuts L).1 h
  have cl := c.len
  refine ⟨by rw [bump_len, cl], fun q => ?_⟩
  have a := c.lo q
  have b := c.hi q
  have d := L.hi q
  rw [nth_bump (by omega)]
  split
  · rename_i e; subst e; omega
  · omega
/-- What the map holds when the cuts from i on are done. -/
def CanMap (D : List Int) (N : List Note) (S : List (List Int)) (L : EntS) (i : Nat) : Prop :=
  ∀ x, Named D x → ∀ z, orZ z (lkS L (nameS x)) = open Classical in if x ∈ (cutsL D N).drop i ∧ x ∉ S then .bool (canB D N S x) else z
theorem CanMap.bump {L : EntS} {i : Nat} (hL : CanMap D N S L (i + 1)) (Lm : Lims D N) (hi : i < (cutsL D N).length) {g : Nat} (hg : g < D.length) : orZ (.bool false) (lkS L (nameS (bump (cutsL D N)[i] g))) = .bool (canB D N S (bump (cutsL D N)[i] g)) := by
  rw [hL _ (bump_named Lm (List.getElem_mem hi) hg)]
  split
  · rfl
  · rename_i h
    rw [canB_no]
    intro hc
    exact h ⟨bump_later hi hg hc.mem, hc.out⟩
theorem CanMap.skip {L : EntS} {i : Nat} (hL : CanMap D N S L (i + 1)) (hi : i < (cutsL D N).length) (hS : (cutsL D N)[i] ∈ S) : CanMap D N S L i := by
  intro x hx z
  rw [hL x hx, List.drop_eq_getElem_cons hi]
  by_cases q : x ∈ (cutsL D N).drop (i + 1) ∧ x ∉ S
  · rw [if_pos q, if_pos ⟨List.mem_cons_of_mem _ q.1, q.2⟩]
  · rw [if_neg q, if_neg]
    rintro ⟨h1, h2⟩
    rcases List.mem_cons.1 h1 with e | e
    · rw [e] at h2; exact h2 hS
    · exact q ⟨e, h2⟩
theorem CanMap.add {L : EntS} {i : Nat} (hL : CanMap D N S L (i + 1)) (Lm : Lims D N) (hi : i < (cutsL D N).length) (hS : (cutsL D N)[i] ∉ S) : CanMap D N S (setS L (nameS (cutsL D N)[i]) (.bool (canB D N S (cutsL D N)[i]))) i := by
  intro x hx z
  have hn := cut_named Lm (List.getElem_mem hi)
  rw [lk_setS, List.drop_eq_getElem_cons hi]
  by_cases e : (cutsL D N)[i] = x
  · rw [if_pos (by rw [e]), if_pos ⟨by rw [e]; simp, by rw [← e]; exact hS⟩, e]; rfl
  · rw [if_neg (fun h => e (nameS_inj (by rw [hn.len, hx.len]) hn.b hx.b h)), hL x hx]
    by_cases q : x ∈ (cutsL D N).drop (i + 1) ∧ x ∉ S
    · rw [if_pos q, if_pos ⟨List.mem_cons_of_mem _ q.1, q.2⟩]
    · rw [if_neg q, if_neg]
      rintro ⟨h1, h2⟩
      rcases List.mem_cons.1 h1 with e2 | e2
      · exact e e2.symm
      · exact q ⟨e2, h2⟩
end
end Go.Proofs.Ytdkmepjedjclkaa

/-
  THE REFERENCE's Definitely (2): its loops. Conditions: none.
-/
namespace Go.Proofs.Ytdkmepjedjclkaa
open Go.AM
open Go.Proofs.Try (prog)
set_option linter.all false
set_option maxRecDepth 100000
set_option maxHeartbeats 4000000

section
variable {D : List Int} {N : List Note} {S : List (List Int)} {vD vN vS : AV} {cs : List AV}
end
end Go.Proofs.Ytdkmepjedjclkaa

/-
  FLAGS: THE REFERENCE's Yes; flags as an argument. Conditions: none.
-/
namespace Go.Proofs.Ytdkmepjedjclkaa
open Go.AM
open Go.Proofs.Try (prog)
set_option linter.all false
set_option maxRecDepth 100000
set_option maxHeartbeats 4000000

end Go.Proofs.Ytdkmepjedjclkaa

/-
  BODIES OF FUNCTIONS OF THE PROGRAM AS SMALL OPERATIONS (written by gen.py; checked by the kernel against the program). Conditions: none.
-/
namespace Go.Proofs.Ytdkmepjedjclkaa
open Go.AM
open Go.Proofs.Try (prog)
set_option maxRecDepth 100000
set_option linter.all false

end Go.Proofs.Ytdkmepjedjclkaa

/-
  WatchFlags RETURNS TRUE. Conditions: none.
-/
namespace Go.Proofs.Ytdkmepjedjclkaa
open Go.AM
open Go.Proofs.Try (prog)
set_option linter.all false
set_option maxRecDepth 100000
set_option maxHeartbeats 4000000

theorem tuples_len : ∀ D : List Int, (∀ i, nth D i ≤ 6) → (tuplesL D).length ≤ 7 ^ D.length
  | [], _ => by simp [tuplesL]
  | d :: D, h => by
    have ih := tuples_len D fun i => h (i + 1)
    have hd : d ≤ 6 := h 0
    have e : ∀ (l : List Nat) (X : List (List Int)), (l.flatMap fun (i : Nat) => X.map (List.cons (i : Int))).length = l.length * X.length := by
      intro l X
      induction l with
      | nil => simp
      | cons a l ih => simp only [List.flatMap_cons, List.length_append, List.length_map, ih, List.length_cons]; rw [Nat.succ_mul]; omega
    simp only [tuplesL]
    rw [e, List.length_range, List.length_cons, Nat.pow_succ, Nat.mul_comm]
    exact Nat.mul_le_mul ih (by omega)
theorem cuts_few {D : List Int} {N : List Note} (L : Lims D N) : (cutsL D N).length ≤ 2401 := by
  refine Nat.le_trans (List.length_filter_le _ _) (Nat.le_trans (tuples_len D L.hi) ?_)
  exact Nat.le_trans (Nat.pow_le_pow_right (by omega) L.n4) (by decide)

/-- A row of flags as a value. -/
def rowBV (l : List Bool) : AV := .fsl (l.length == 0) l.length (flatC boolC l)
def cutF (Y : List (List Bool)) (k : Nat) : List (List Bool) := (Y.take k).map fun l => l.take 8
end Go.Proofs.Ytdkmepjedjclkaa

/-
  THE REFERENCE's Definitely (3): WHAT IT HANDS BACK; its Possibly; sets as arguments. Conditions: none.
-/
namespace Go.Proofs.Ytdkmepjedjclkaa
open Go.AM
open Go.Proofs.Try (prog)
set_option linter.all false
set_option maxRecDepth 100000
set_option maxHeartbeats 4000000

section
variable {D : List Int} {N : List Note} {S : List (List Int)} {vD vN vS : AV} {cs : List AV}
theorem CanMap.at {L : EntS} (hL : CanMap D N S L 0) {x : List Int} (hx : Named D x) : orZ (.bool false) (lkS L (nameS x)) = .bool (canB D N S x) := by
  rw [hL x hx]
  split
  · rfl
  · rename_i h
    rw [canB_no]
    intro hc
    exact h ⟨by simpa using hc.mem, hc.out⟩

/-- What the reference's Definitely hands back. -/
inductive DefR (D : List Int) (N : List Note) (S : List (List Int)) : AV → Prop where
  | no (h : ¬ Can D N S (List.replicate D.length 0)) : DefR D N S .nils
  | yes {l : List (List Int)} (h : Can D N S (List.replicate D.length 0)) (p : Path D N S (List.replicate D.length 0) l) : DefR D N S (.fsl false l.length (flatC rowC l))

end
end Go.Proofs.Ytdkmepjedjclkaa

/-
  THE REFERENCE's Possibly; sets as arguments. Conditions: none.
-/
namespace Go.Proofs.Ytdkmepjedjclkaa
open Go.AM
open Go.Proofs.Try (prog)
set_option linter.all false
set_option maxRecDepth 100000
set_option maxHeartbeats 4000000

/-- The best cut so far. -/
def bestF (N : List Note) (b : Option (List Int)) (c : List Int) : Option (List Int) := if (conR N c && (match b with | none => true | some d => lexLt c d)) = true then some c else b
/-- It as a value. -/
def OptV (b : Option (List Int)) (v : AV) : Prop := match b with
  | none => v = .nils
  | some c => ∃ ex, v = .fsl ex c.length (ints c)
section
variable {D : List Int} {N : List Note} {S : List (List Int)} {vD vN vS : AV} {cs : List AV}
/-- What is known of the best. -/
def BestOk (N : List Note) (S : List (List Int)) (b : Option (List Int)) : Prop := match b with
  | none => ∀ c ∈ S, conR N c = false
  | some d => d ∈ S ∧ conR N d = true ∧ ∀ c ∈ S, conR N c = true → lexLt c d = false
end

def cutS (Y : List (List Int)) (k : Nat) : List (List Int) := (Y.take k).map fun l => l.take 5
theorem cAt_append {X : List AV} {w : AV} {j : Nat} : cAt (X ++ [w]) j = if j < X.length then cAt X j else if j = X.length then w else .undef := by
  simp only [cAt, List.getD]
  by_cases h : j < X.length
  · rw [List.getElem?_append_left h, if_pos h]
  · rw [List.getElem?_append_right (by omega), if_neg h]
    by_cases e : j = X.length
    · subst e; simp
    · rw [if_neg e]
      obtain ⟨q, hq⟩ : ∃ q, j - X.length = q + 1 := ⟨j - X.length - 1, by omega⟩
      rw [hq]; rfl
end Go.Proofs.Ytdkmepjedjclkaa

/-
  WatchGarg RETURNS TRUE. Conditions: none.
-/
namespace Go.Proofs.Ytdkmepjedjclkaa
open Go.AM
open Go.Proofs.Try (prog)
set_option linter.all false
set_option maxRecDepth 100000
set_option maxHeartbeats 4000000

def rowW (l : List Bool) : AV := .fsl false l.length (flatC boolC l)
theorem vec_rows (ex : Bool) (Y : List (List Int)) : IsVec IsInts (.fsl ex Y.length (flatC rowC Y)) (flatC rowC Y) Y := by
  rw [flatC_row]
  exact vec_of (g := fun c : List Int => AV.fsl false c.length (ints c)) (fun c => IsInts.fsl false c) (fun _ => rfl) ex Y
end Go.Proofs.Ytdkmepjedjclkaa

/-
  BODIES OF FUNCTIONS OF THE PROGRAM AS SMALL OPERATIONS (written by gen.py; checked by the kernel against the program). Conditions: none.
-/
namespace Go.Proofs.Ytdkmepjedjclkaa
open Go.AM
open Go.Proofs.Try (prog)
set_option maxRecDepth 100000
set_option linter.all false

end Go.Proofs.Ytdkmepjedjclkaa

/-
  WatchSets RETURNS TRUE. Conditions: none.
-/
namespace Go.Proofs.Ytdkmepjedjclkaa
open Go.AM
open Go.Proofs.Try (prog)
set_option linter.all false
set_option maxRecDepth 100000
set_option maxHeartbeats 4000000

theorem path_len {D : List Int} {N : List Note} {S : List (List Int)} (L : Lims D N) {x : List Int} {l : List (List Int)} (p : Path D N S x l) : x ∈ cutsL D N → (l.length : Int) + x.sum ≤ D.sum + 1 := by
  induction p with
  | last => intro _; simp; omega
  | @step c h l hc hh r ng p ih =>
    intro hm
    have := ih r.mem
    have hl := ((mem_cuts L).1 hm).1.len
    have := sum_bump (c := c) (h := h) (by omega)
    simp; omega
theorem path_few {D : List Int} {N : List Note} {S : List (List Int)} (P : Pre D N) {l : List (List Int)} (p : Path D N S (List.replicate D.length 0) l) : l.length ≤ 25 := by
  have a := path_len P.L p (zeros_cut P.L P)
  have b := sum_six D P.L.n4 P.L.hi
  simp at a
  omega

end Go.Proofs.Ytdkmepjedjclkaa
