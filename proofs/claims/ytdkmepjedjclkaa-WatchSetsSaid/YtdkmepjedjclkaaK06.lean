/-
  BODIES OF FUNCTIONS OF THE PROGRAM AS SMALL OPERATIONS (written by gen.py; checked by the kernel against the program). Conditions: none.
-/
import Derived.Test.YtdkmepjedjclkaaKAmH
import Derived.Test.YtdkmepjedjclkaaK05
set_option linter.all false
namespace Go.Proofs.Ytdkmepjedjclkaa
open Go.AM
open Go.Proofs.Try (prog)
set_option maxRecDepth 100000
set_option linter.all false

namespace watch_Definitely
/-- pommel/watch.Definitely -/
noncomputable def b : Code := (Try.f39.body).getD .skip
theorem hf : prog.funcs[39]? = some Try.f39 := by kernel_rfl
noncomputable def r0 : Code := findReg b 0
noncomputable def r1 : Code := findReg b 1
noncomputable def r2 : Code := findReg b 2
noncomputable def i0 : Code := findCond b 0
noncomputable def i0t : Code := thenOf i0
noncomputable def i0e : Code := elseOf i0
noncomputable def r3 : Code := findReg b 3
noncomputable def r4 : Code := findReg b 4
noncomputable def r5 : Code := findReg b 5
noncomputable def r6 : Code := findReg b 6
noncomputable def r7 : Code := findReg b 7
noncomputable def r8 : Code := findReg b 8
noncomputable def i1 : Code := findCond b 1
noncomputable def i1t : Code := thenOf i1
noncomputable def i1e : Code := elseOf i1
noncomputable def r9 : Code := findReg b 9
noncomputable def r10 : Code := findReg b 10
theorem b_eq (K : List Item) (s : St) : den prog ann 39 (.code b :: K) s = den prog ann 39 (.code r0 :: .code r1 :: .code r2 :: .code i0 :: .code r4 :: .code r5 :: .code r6 :: .code r7 :: .code r8 :: .code i1 :: .code r10 :: .code .ret :: K) s := den_flat hf (l := [r0, r1, r2, i0, r4, r5, r6, r7, r8, i1, r10, .ret]) (by kernel_rfl) K s
theorem r0_eq (K : List Item) (s : St) : den prog ann 39 (.code r0 :: K) s = mreg prog ann 39 none [] none [] [
    ⟨some 2, none, .v fun s => frozenPtr (s.get 0)⟩,
    ⟨some 4, none, .v fun s => some (.nils)⟩,
    ⟨some 5, none, .v fun s => some (.int .i64 0)⟩] K s := (den_reg hf _ K s).trans (by kernel_rfl)
theorem r1_eq (K : List Item) (s : St) : den prog ann 39 (.code r1 :: K) s = mreg prog ann 39 none [] none [6, 7] [
    ⟨some 13, none, .v fun s => loadF true 2 (s.get 2)⟩,
    ⟨some 14, none, .v fun s => some (s.get 1)⟩,
    ⟨some 15, none, .c 0 (fun s => (.fn 74 [] [])) fun s => [(s.get 13), (s.get 14)]⟩,
    ⟨some 12, none, .v fun s => some (s.get 15)⟩,
    ⟨some 16, none, .v fun s => extA (s.get 12) 0⟩,
    ⟨some 17, none, .v fun s => extA (s.get 12) 1⟩,
    ⟨some 18, none, .v fun s => extA (s.get 12) 2⟩,
    ⟨some 6, none, .w false none fun s => newPtr s.m [.nilp]⟩,
    ⟨some 7, none, .w false none fun s => newPtr s.m [.nilm]⟩,
    ⟨none, none, .w false none fun s => stA false 1 s.m (s.get 6) (s.get 16)⟩,
    ⟨none, none, .w false none fun s => stA false 1 s.m (s.get 7) (s.get 17)⟩,
    ⟨some 8, none, .v fun s => some (s.get 18)⟩] K s := (den_reg hf _ K s).trans (by kernel_rfl)
theorem r2_eq (K : List Item) (s : St) : den prog ann 39 (.code r2 :: K) s = mreg prog ann 39 none [] none [] [
    ⟨some 19, none, .v fun s => some (s.get 8)⟩,
    ⟨some 20, none, .v fun s => binA prog .neq 27 (s.get 19) (.int .i64 0)⟩] K s := (den_reg hf _ K s).trans (by kernel_rfl)
theorem i0_eq (K : List Item) (s : St) : den prog ann 39 (.code i0 :: K) s = ifV prog ann 39 20 i0t i0e K s (s.get 20) := den_if hf (by kernel_rfl) K s
theorem i0t_eq (K : List Item) (s : St) : den prog ann 39 (.code i0t :: K) s = den prog ann 39 (.code r3 :: .code .ret :: K) s := den_flat hf (l := [r3, .ret]) (by kernel_rfl) K s
theorem r3_eq (K : List Item) (s : St) : den prog ann 39 (.code r3 :: K) s = mreg prog ann 39 none [] none [] [
    ⟨some 21, none, .v fun s => some (s.get 8)⟩,
    ⟨some 4, none, .v fun s => some (.nils)⟩,
    ⟨some 5, none, .v fun s => some (s.get 21)⟩] K s := (den_reg hf _ K s).trans (by kernel_rfl)
theorem i0e_eq (K : List Item) (s : St) : den prog ann 39 (.code i0e :: K) s = den prog ann 39 (K) s := den_flat hf (l := []) (by kernel_rfl) K s
theorem r4_eq (K : List Item) (s : St) : den prog ann 39 (.code r4 :: K) s = mreg prog ann 39 none [] none [9] [
    ⟨some 22, none, .w false none fun s => some (.map s.m.nx, s.m.new (.map 0 [] []))⟩,
    ⟨some 9, none, .w false none fun s => newPtr s.m [.nilm]⟩,
    ⟨none, none, .w false none fun s => stA false 1 s.m (s.get 9) (s.get 22)⟩] K s := (den_reg hf _ K s).trans (by kernel_rfl)
theorem r5_eq (K : List Item) (s : St) : den prog ann 39 (.code r5 :: K) s = mreg prog ann 39 none [] none [] [
    ⟨some 10, none, .w false none fun s => newPtr s.m [.nilf]⟩] K s := (den_reg hf _ K s).trans (by kernel_rfl)
theorem r6_eq (K : List Item) (s : St) : den prog ann 39 (.code r6 :: K) s = mreg prog ann 39 none [] none [] [
    ⟨some 23, none, .v fun s => some (.fn 77 [] [(s.get 7), (s.get 9), (s.get 6), (s.get 10)])⟩,
    ⟨none, none, .w false none fun s => stA false 1 s.m (s.get 10) (s.get 23)⟩] K s := (den_reg hf _ K s).trans (by kernel_rfl)
theorem r7_eq (K : List Item) (s : St) : den prog ann 39 (.code r7 :: K) s = mreg prog ann 39 none [] none [] [
    ⟨some 24, none, .v fun s => loadA false 1 s.m (s.get 10)⟩,
    ⟨some 25, none, .v fun s => bldA (plcA 1) [.int .i64 0, .int .i64 0, .int .i64 0, .int .i64 0] []⟩,
    ⟨some 26, none, .c 0 (fun s => (s.get 24)) fun s => [(s.get 25)]⟩,
    ⟨some 11, none, .v fun s => some (s.get 26)⟩] K s := (den_reg hf _ K s).trans (by kernel_rfl)
theorem r8_eq (K : List Item) (s : St) : den prog ann 39 (.code r8 :: K) s = mreg prog ann 39 none [] none [] [
    ⟨some 27, none, .v fun s => some (s.get 11)⟩,
    ⟨some 28, none, .v fun s => binA prog .eql 31 (s.get 27) (.nils)⟩] K s := (den_reg hf _ K s).trans (by kernel_rfl)
theorem i1_eq (K : List Item) (s : St) : den prog ann 39 (.code i1 :: K) s = ifV prog ann 39 28 i1t i1e K s (s.get 28) := den_if hf (by kernel_rfl) K s
theorem i1t_eq (K : List Item) (s : St) : den prog ann 39 (.code i1t :: K) s = den prog ann 39 (.code r9 :: .code .ret :: K) s := den_flat hf (l := [r9, .ret]) (by kernel_rfl) K s
theorem r9_eq (K : List Item) (s : St) : den prog ann 39 (.code r9 :: K) s = mreg prog ann 39 none [] none [] [
    ⟨some 4, none, .v fun s => some (.nils)⟩,
    ⟨some 5, none, .v fun s => some (.int .i64 5)⟩] K s := (den_reg hf _ K s).trans (by kernel_rfl)
theorem i1e_eq (K : List Item) (s : St) : den prog ann 39 (.code i1e :: K) s = den prog ann 39 (K) s := den_flat hf (l := []) (by kernel_rfl) K s
theorem r10_eq (K : List Item) (s : St) : den prog ann 39 (.code r10 :: K) s = mreg prog ann 39 none [] none [] [
    ⟨some 29, none, .v fun s => some (s.get 11)⟩,
    ⟨some 4, none, .v fun s => some (s.get 29)⟩,
    ⟨some 5, none, .v fun s => some (.int .i64 0)⟩] K s := (den_reg hf _ K s).trans (by kernel_rfl)
theorem ret_eq (K : List Item) (s : St) : den prog ann 39 (.code .ret :: K) s = finM true [fun s => some (s.get 4), fun s => some (s.get 5)] s := (den_ret hf K s).trans (by kernel_rfl)
theorem nil_eq (s : St) : den prog ann 39 [] s = finM true [fun s => some (s.get 4), fun s => some (s.get 5)] s := (den_nil hf s).trans (by kernel_rfl)
theorem inBlock_eq (id : Nat) (K : List Item) (s : St) : den prog ann 39 (.inBlock id :: K) s = den prog ann 39 K s := den_inBlock hf id K s
theorem exit_eq (id : Nat) (K : List Item) (s : St) : den prog ann 39 (.code (.exit id) :: K) s = exitV prog ann 39 (exitTo id K) s := den_exitV hf id K s
theorem call_eq (v0 v1 : AV) (m : Mem) (h : closedL [v0, v1] = true) : denC prog ann 39 [v0, v1] m = (den prog ann 39 [.code b] ⟨[(0, v0), (1, v1)], 30, Mem.empty⟩).bind fun r => some (r.1, m) := (denC_pure hf (b := b) (by kernel_rfl) (by kernel_rfl) (by kernel_rfl) h m).trans (by kernel_rfl)
theorem pure_eq : (ann 39).pure = true := by kernel_rfl
attribute [simp] b_eq r0_eq r1_eq r2_eq i0_eq i0t_eq r3_eq i0e_eq r4_eq r5_eq r6_eq r7_eq r8_eq i1_eq i1t_eq r9_eq i1e_eq r10_eq ret_eq nil_eq inBlock_eq exit_eq pure_eq
end watch_Definitely

namespace watch_Definitely_1
/-- pommel/watch.Definitely$1 -/
noncomputable def b : Code := (Try.f77.body).getD .skip
theorem hf : prog.funcs[77]? = some Try.f77 := by kernel_rfl
noncomputable def r0 : Code := findReg b 0
noncomputable def r1 : Code := findReg b 1
noncomputable def i0 : Code := findCond b 0
noncomputable def i0t : Code := thenOf i0
noncomputable def i0e : Code := elseOf i0
noncomputable def r2 : Code := findReg b 2
noncomputable def r3 : Code := findReg b 3
noncomputable def i1 : Code := findCond b 1
noncomputable def i1t : Code := thenOf i1
noncomputable def i1e : Code := elseOf i1
noncomputable def r4 : Code := findReg b 4
noncomputable def r5 : Code := findReg b 5
noncomputable def k0 : Code := findBlk b 0
noncomputable def l0 : Code := loopOf k0
noncomputable def L0 (x2 x3 x4 x5 x30 x31 x32 : AV) (m : Mem) (K : List Item) : Option Res := den prog ann 77 (.code l0 :: .inLoop l0 :: .inBlock 0 :: K) ⟨[(2, x2), (3, x3), (4, x4), (5, x5), (30, x30), (31, x31), (32, x32)], 50, m⟩
noncomputable def r6 : Code := findReg b 6
noncomputable def i2 : Code := findCond b 2
noncomputable def i2t : Code := thenOf i2
noncomputable def i2e : Code := elseOf i2
noncomputable def k1 : Code := findBlk b 1
noncomputable def r7 : Code := findReg b 7
noncomputable def r8 : Code := findReg b 8
noncomputable def r9 : Code := findReg b 9
noncomputable def i3 : Code := findCond b 3
noncomputable def i3t : Code := thenOf i3
noncomputable def i3e : Code := elseOf i3
noncomputable def r10 : Code := findReg b 10
noncomputable def r11 : Code := findReg b 11
noncomputable def r12 : Code := findReg b 12
noncomputable def r13 : Code := findReg b 13
theorem b_eq (K : List Item) (s : St) : den prog ann 77 (.code b :: K) s = den prog ann 77 (.code r0 :: .code r1 :: .code i0 :: .code r3 :: .code i1 :: .code r5 :: .code k0 :: .code r12 :: .code r13 :: .code .ret :: K) s := den_flat hf (l := [r0, r1, i0, r3, i1, r5, k0, r12, r13, .ret]) (by kernel_rfl) K s
theorem r0_eq (K : List Item) (s : St) : den prog ann 77 (.code r0 :: K) s = mreg prog ann 77 none [] none [] [
    ⟨some 5, none, .v fun s => frozenPtr (s.get 0)⟩,
    ⟨some 6, none, .v fun s => some (.nils)⟩] K s := (den_reg hf _ K s).trans (by kernel_rfl)
theorem r1_eq (K : List Item) (s : St) : den prog ann 77 (.code r1 :: K) s = mreg prog ann 77 none [] none [] [
    ⟨some 10, none, .v fun s => loadA false 1 s.m (s.get 1)⟩,
    ⟨some 11, none, .v fun s => loadF true 4 (s.get 5)⟩,
    ⟨some 12, none, .v fun s => lookP prog s.m 99 (.bool false) (s.get 10) (s.get 11) false⟩,
    ⟨some 13, none, .v fun s => some (s.get 12)⟩,
    ⟨some 14, some (13, false), .v fun s => loadA false 1 s.m (s.get 2)⟩,
    ⟨some 15, some (13, false), .v fun s => loadF true 4 (s.get 5)⟩,
    ⟨some 16, some (13, false), .v fun s => lookP prog s.m 99 (.bool false) (s.get 14) (s.get 15) false⟩,
    ⟨some 17, none, .v fun s => pickA (s.get 13) (.bool true) (s.get 16)⟩] K s := (den_reg hf _ K s).trans (by kernel_rfl)
theorem i0_eq (K : List Item) (s : St) : den prog ann 77 (.code i0 :: K) s = ifV prog ann 77 17 i0t i0e K s (s.get 17) := den_if hf (by kernel_rfl) K s
theorem i0t_eq (K : List Item) (s : St) : den prog ann 77 (.code i0t :: K) s = den prog ann 77 (.code r2 :: .code .ret :: K) s := den_flat hf (l := [r2, .ret]) (by kernel_rfl) K s
theorem r2_eq (K : List Item) (s : St) : den prog ann 77 (.code r2 :: K) s = mreg prog ann 77 none [] none [] [
    ⟨some 6, none, .v fun s => some (.nils)⟩] K s := (den_reg hf _ K s).trans (by kernel_rfl)
theorem i0e_eq (K : List Item) (s : St) : den prog ann 77 (.code i0e :: K) s = den prog ann 77 (K) s := den_flat hf (l := []) (by kernel_rfl) K s
theorem r3_draw : drawOk (fun g => (ann g).pure) (modeOf (ann 77) (idOf r3)) (frzOf (ann 77) (idOf r3)) (opsOf r3) = true := drawOk_of (an := [0, 0, 2, 6, 14, 31]) (by kernel_rfl) (by kernel_rfl)
theorem r3_eq (K : List Item) (s : St) : den prog ann 77 (.code r3 :: K) s = mreg prog ann 77 none [] (some 6) [] [
    ⟨some 18, none, .v fun s => loadF true 4 (s.get 5)⟩,
    ⟨some 19, none, .v fun s => loadA false 1 s.m (s.get 3)⟩,
    ⟨some 20, none, .v fun s => nilA (s.get 19)⟩,
    ⟨some 21, none, .v fun s => fieldA 1 (s.get 20)⟩,
    ⟨some 22, none, .v fun s => loadA true 4 s.m (s.get 21)⟩,
    ⟨some 23, none, .v fun s => binA prog .eql 99 (s.get 18) (s.get 22)⟩] K s := (den_regD hf r3_draw K s).trans (by kernel_rfl)
theorem i1_eq (K : List Item) (s : St) : den prog ann 77 (.code i1 :: K) s = ifV prog ann 77 23 i1t i1e K s (s.get 23) := den_if hf (by kernel_rfl) K s
theorem i1t_eq (K : List Item) (s : St) : den prog ann 77 (.code i1t :: K) s = den prog ann 77 (.code r4 :: .code .ret :: K) s := den_flat hf (l := [r4, .ret]) (by kernel_rfl) K s
theorem r4_eq (K : List Item) (s : St) : den prog ann 77 (.code r4 :: K) s = mreg prog ann 77 none [] none [] [
    ⟨some 24, none, .v fun s => loadA false 1 s.m (s.get 3)⟩,
    ⟨some 25, none, .v fun s => loadF true 4 (s.get 5)⟩,
    ⟨some 26, none, .c 2 (fun s => (.fn 63 [] [])) fun s => [(s.get 24), (s.get 25)]⟩,
    ⟨some 27, none, .v fun s => bslF 1 (bslA 1 1 [.nils] [(0, (s.get 26))])⟩,
    ⟨some 6, none, .v fun s => some (s.get 27)⟩] K s := (den_reg hf _ K s).trans (by kernel_rfl)
theorem i1e_eq (K : List Item) (s : St) : den prog ann 77 (.code i1e :: K) s = den prog ann 77 (K) s := den_flat hf (l := []) (by kernel_rfl) K s
theorem r5_eq (K : List Item) (s : St) : den prog ann 77 (.code r5 :: K) s = mreg prog ann 77 none [] none [] [
    ⟨some 28, none, .v fun s => loadA false 1 s.m (s.get 3)⟩,
    ⟨some 29, none, .v fun s => loadF true 4 (s.get 5)⟩,
    ⟨some 30, none, .c 2 (fun s => (.fn 73 [] [])) fun s => [(s.get 28), (s.get 29)]⟩,
    ⟨some 31, none, .v fun s => lenSl (s.get 30)⟩,
    ⟨some 32, none, .v fun s => some (.int .i64 0)⟩] K s := (den_reg hf _ K s).trans (by kernel_rfl)
theorem k0_eq (K : List Item) (t : List (Nat × AV)) (m : Mem) : den prog ann 77 (.code k0 :: K) ⟨t, 50, m⟩ = L0 (get t 2) (get t 3) (get t 4) (get t 5) (get t 30) (get t 31) (get t 32) m K := den_loop_enter hf (b := l0) (id := 6) (l := [2, 3, 4, 5, 30, 31, 32]) (by kernel_rfl) (by kernel_rfl) (by kernel_rfl) K _
theorem l0_eq (K : List Item) (t : List (Nat × AV)) (m : Mem) : den prog ann 77 (.inLoop l0 :: .inBlock 0 :: K) ⟨t, 50, m⟩ = L0 (get t 2) (get t 3) (get t 4) (get t 5) (get t 30) (get t 31) (get t 32) m K := den_loop_again hf (id := 6) (l := [2, 3, 4, 5, 30, 31, 32]) (by kernel_rfl) (by kernel_rfl) (.inBlock 0 :: K) _
theorem L0_eq (x2 x3 x4 x5 x30 x31 x32 : AV) (m : Mem) (K : List Item) : L0 x2 x3 x4 x5 x30 x31 x32 m K = den prog ann 77 (.code r6 :: .code i2 :: .code k1 :: .code r11 :: .inLoop l0 :: .inBlock 0 :: K) ⟨[(2, x2), (3, x3), (4, x4), (5, x5), (30, x30), (31, x31), (32, x32)], 50, m⟩ := den_flat hf (l := [r6, i2, k1, r11]) (by kernel_rfl) _ _
theorem r6_eq (K : List Item) (s : St) : den prog ann 77 (.code r6 :: K) s = mreg prog ann 77 (some [2, 3, 4, 5, 30, 31, 32]) [] none [] [
    ⟨some 33, none, .v fun s => binA prog .lss 3 (s.get 32) (s.get 31)⟩] K s := (den_reg hf _ K s).trans (by kernel_rfl)
theorem i2_eq (K : List Item) (s : St) : den prog ann 77 (.code i2 :: K) s = ifV prog ann 77 33 i2t i2e K s (s.get 33) := den_if hf (by kernel_rfl) K s
theorem i2t_eq (K : List Item) (s : St) : den prog ann 77 (.code i2t :: K) s = den prog ann 77 (K) s := den_flat hf (l := []) (by kernel_rfl) K s
theorem i2e_eq (K : List Item) (s : St) : den prog ann 77 (.code i2e :: K) s = den prog ann 77 (.code (.exit 0) :: K) s := den_flat hf (l := [(.exit 0)]) (by kernel_rfl) K s
theorem k1_eq (K : List Item) (s : St) : den prog ann 77 (.code k1 :: K) s = den prog ann 77 (.code r7 :: .code r8 :: .code r9 :: .code i3 :: .inBlock 1 :: K) s := den_blk hf (b := blkOf k1) (l := [r7, r8, r9, i3]) (by kernel_rfl) (by kernel_rfl) K s
theorem r7_eq (K : List Item) (s : St) : den prog ann 77 (.code r7 :: K) s = mreg prog ann 77 none [] none [8] [
    ⟨some 34, none, .v fun s => idxSl 4 (s.get 30) (s.get 32)⟩,
    ⟨some 35, none, .v fun s => loadF true 4 (s.get 34)⟩,
    ⟨some 8, none, .w false none fun s => newPtr s.m [.int .i64 0, .int .i64 0, .int .i64 0, .int .i64 0]⟩,
    ⟨none, none, .w false none fun s => stA true 4 s.m (s.get 8) (s.get 35)⟩] K s := (den_reg hf _ K s).trans (by kernel_rfl)
theorem r8_eq (K : List Item) (s : St) : den prog ann 77 (.code r8 :: K) s = mreg prog ann 77 none [] none [] [
    ⟨some 36, none, .v fun s => loadA false 1 s.m (s.get 4)⟩,
    ⟨some 37, none, .v fun s => loadF true 4 (s.get 8)⟩,
    ⟨some 38, none, .c 0 (fun s => (s.get 36)) fun s => [(s.get 37)]⟩,
    ⟨some 9, none, .v fun s => some (s.get 38)⟩] K s := (den_reg hf _ K s).trans (by kernel_rfl)
theorem r9_eq (K : List Item) (s : St) : den prog ann 77 (.code r9 :: K) s = mreg prog ann 77 none [] none [] [
    ⟨some 39, none, .v fun s => some (s.get 9)⟩,
    ⟨some 40, none, .v fun s => binA prog .neq 31 (s.get 39) (.nils)⟩] K s := (den_reg hf _ K s).trans (by kernel_rfl)
theorem i3_eq (K : List Item) (s : St) : den prog ann 77 (.code i3 :: K) s = ifV prog ann 77 40 i3t i3e K s (s.get 40) := den_if hf (by kernel_rfl) K s
theorem i3t_eq (K : List Item) (s : St) : den prog ann 77 (.code i3t :: K) s = den prog ann 77 (.code r10 :: .code .ret :: K) s := den_flat hf (l := [r10, .ret]) (by kernel_rfl) K s
theorem r10_eq (K : List Item) (s : St) : den prog ann 77 (.code r10 :: K) s = mreg prog ann 77 none [] none [] [
    ⟨some 41, none, .v fun s => loadA false 1 s.m (s.get 3)⟩,
    ⟨some 42, none, .v fun s => loadF true 4 (s.get 5)⟩,
    ⟨some 43, none, .c 2 (fun s => (.fn 63 [] [])) fun s => [(s.get 41), (s.get 42)]⟩,
    ⟨some 44, none, .w false none fun s => bslM s.m 1 (bslA 1 1 [.nils] [(0, (s.get 43))])⟩,
    ⟨some 45, none, .v fun s => some (s.get 9)⟩,
    ⟨some 46, none, .w true none fun s => appendA 1 24 s.m (s.get 44) (s.get 45)⟩,
    ⟨some 6, none, .v fun s => some (s.get 46)⟩] K s := (den_reg hf _ K s).trans (by kernel_rfl)
theorem i3e_eq (K : List Item) (s : St) : den prog ann 77 (.code i3e :: K) s = den prog ann 77 (K) s := den_flat hf (l := []) (by kernel_rfl) K s
theorem r11_eq (K : List Item) (s : St) : den prog ann 77 (.code r11 :: K) s = mreg prog ann 77 (some [2, 3, 4, 5, 30, 31, 32]) [] none [] [
    ⟨some 47, none, .v fun s => binA prog .add 3 (s.get 32) (.int .i64 1)⟩,
    ⟨some 32, none, .v fun s => some (s.get 47)⟩] K s := (den_reg hf _ K s).trans (by kernel_rfl)
theorem r12_eq (K : List Item) (s : St) : den prog ann 77 (.code r12 :: K) s = mreg prog ann 77 (some [2, 5]) [] none [] [
    ⟨some 48, none, .v fun s => loadA false 1 s.m (s.get 2)⟩,
    ⟨some 49, none, .v fun s => loadF true 4 (s.get 5)⟩,
    ⟨none, none, .w false none fun s => updM prog s.m 99 (s.get 48) (s.get 49) (.bool true)⟩] K s := (den_reg hf _ K s).trans (by kernel_rfl)
theorem r13_eq (K : List Item) (s : St) : den prog ann 77 (.code r13 :: K) s = mreg prog ann 77 none [] none [] [
    ⟨some 6, none, .v fun s => some (.nils)⟩] K s := (den_reg hf _ K s).trans (by kernel_rfl)
theorem ret_eq (K : List Item) (s : St) : den prog ann 77 (.code .ret :: K) s = finM false [fun s => some (s.get 6)] s := (den_ret hf K s).trans (by kernel_rfl)
theorem nil_eq (s : St) : den prog ann 77 [] s = finM false [fun s => some (s.get 6)] s := (den_nil hf s).trans (by kernel_rfl)
theorem inBlock_eq (id : Nat) (K : List Item) (s : St) : den prog ann 77 (.inBlock id :: K) s = den prog ann 77 K s := den_inBlock hf id K s
theorem exit_eq (id : Nat) (K : List Item) (s : St) : den prog ann 77 (.code (.exit id) :: K) s = exitV prog ann 77 (exitTo id K) s := den_exitV hf id K s
theorem call_eq (v0 v1 v2 v3 v4 : AV) (m : Mem) : denC prog ann 77 [v0, v1, v2, v3, v4] m = den prog ann 77 [.code b] ⟨[(0, v0), (1, v1), (2, v2), (3, v3), (4, v4)], 50, m⟩ := (denC_impure hf (b := b) (by kernel_rfl) (by kernel_rfl) (by kernel_rfl) m).trans (by kernel_rfl)
theorem pure_eq : (ann 77).pure = false := by kernel_rfl
attribute [simp] b_eq r0_eq r1_eq i0_eq i0t_eq r2_eq i0e_eq r3_eq i1_eq i1t_eq r4_eq i1e_eq r5_eq k0_eq l0_eq r6_eq i2_eq i2t_eq i2e_eq k1_eq r7_eq r8_eq r9_eq i3_eq i3t_eq r10_eq i3e_eq r11_eq r12_eq r13_eq ret_eq nil_eq inBlock_eq exit_eq pure_eq
end watch_Definitely_1

namespace watch_story_next
/-- (*pommel/watch.story).next -/
noncomputable def b : Code := (Try.f73.body).getD .skip
theorem hf : prog.funcs[73]? = some Try.f73 := by kernel_rfl
noncomputable def r0 : Code := findReg b 0
noncomputable def r1 : Code := findReg b 1
noncomputable def r2 : Code := findReg b 2
noncomputable def k0 : Code := findBlk b 0
noncomputable def l0 : Code := loopOf k0
noncomputable def L0 (x0 x3 x5 x6 : AV) (m : Mem) (K : List Item) : Option Res := den prog ann 73 (.code l0 :: .inLoop l0 :: .inBlock 0 :: K) ⟨[(0, x0), (3, x3), (5, x5), (6, x6)], 43, m⟩
noncomputable def r3 : Code := findReg b 3
noncomputable def i0 : Code := findCond b 0
noncomputable def i0t : Code := thenOf i0
noncomputable def i0e : Code := elseOf i0
noncomputable def k1 : Code := findBlk b 1
noncomputable def r5 : Code := findReg b 5
noncomputable def r6 : Code := findReg b 6
noncomputable def r7 : Code := findReg b 7
noncomputable def i1 : Code := findCond b 1
noncomputable def i1t : Code := thenOf i1
noncomputable def i1e : Code := elseOf i1
noncomputable def r8 : Code := findReg b 8
noncomputable def r4 : Code := findReg b 4
noncomputable def r9 : Code := findReg b 9
theorem b_eq (K : List Item) (s : St) : den prog ann 73 (.code b :: K) s = den prog ann 73 (.code r0 :: .code r1 :: .code r2 :: .code k0 :: .code r9 :: .code .ret :: K) s := den_flat hf (l := [r0, r1, r2, k0, r9, .ret]) (by kernel_rfl) K s
theorem r0_eq (K : List Item) (s : St) : den prog ann 73 (.code r0 :: K) s = mreg prog ann 73 none [] none [] [
    ⟨some 3, none, .v fun s => frozenPtr (s.get 1)⟩,
    ⟨some 4, none, .v fun s => some (.nils)⟩] K s := (den_reg hf _ K s).trans (by kernel_rfl)
theorem r1_eq (K : List Item) (s : St) : den prog ann 73 (.code r1 :: K) s = mreg prog ann 73 none [] none [] [
    ⟨some 5, none, .v fun s => some (.nils)⟩] K s := (den_reg hf _ K s).trans (by kernel_rfl)
theorem r2_eq (K : List Item) (s : St) : den prog ann 73 (.code r2 :: K) s = mreg prog ann 73 none [] none [] [
    ⟨some 8, none, .v fun s => some (s.get 0)⟩,
    ⟨some 9, none, .v fun s => nilA (s.get 8)⟩,
    ⟨some 10, none, .v fun s => fieldA 0 (s.get 9)⟩,
    ⟨some 11, none, .v fun s => loadF false 1 (s.get 10)⟩,
    ⟨some 12, none, .v fun s => binA prog .sub 3 (s.get 11) (.int .i64 1)⟩,
    ⟨some 6, none, .v fun s => some (s.get 12)⟩] K s := (den_reg hf _ K s).trans (by kernel_rfl)
theorem k0_eq (K : List Item) (t : List (Nat × AV)) (m : Mem) : den prog ann 73 (.code k0 :: K) ⟨t, 43, m⟩ = L0 (get t 0) (get t 3) (get t 5) (get t 6) m K := den_loop_enter hf (b := l0) (id := 3) (l := [0, 3, 5, 6]) (by kernel_rfl) (by kernel_rfl) (by kernel_rfl) K _
theorem l0_eq (K : List Item) (t : List (Nat × AV)) (m : Mem) : den prog ann 73 (.inLoop l0 :: .inBlock 0 :: K) ⟨t, 43, m⟩ = L0 (get t 0) (get t 3) (get t 5) (get t 6) m K := den_loop_again hf (id := 3) (l := [0, 3, 5, 6]) (by kernel_rfl) (by kernel_rfl) (.inBlock 0 :: K) _
theorem L0_eq (x0 x3 x5 x6 : AV) (m : Mem) (K : List Item) : L0 x0 x3 x5 x6 m K = den prog ann 73 (.code r3 :: .code i0 :: .code k1 :: .code r4 :: .inLoop l0 :: .inBlock 0 :: K) ⟨[(0, x0), (3, x3), (5, x5), (6, x6)], 43, m⟩ := den_flat hf (l := [r3, i0, k1, r4]) (by kernel_rfl) _ _
theorem r3_eq (K : List Item) (s : St) : den prog ann 73 (.code r3 :: K) s = mreg prog ann 73 (some [0, 3, 5, 6]) [] none [] [
    ⟨some 13, none, .v fun s => some (s.get 6)⟩,
    ⟨some 14, none, .v fun s => binA prog .geq 3 (s.get 13) (.int .i64 0)⟩] K s := (den_reg hf _ K s).trans (by kernel_rfl)
theorem i0_eq (K : List Item) (s : St) : den prog ann 73 (.code i0 :: K) s = ifV prog ann 73 14 i0t i0e K s (s.get 14) := den_if hf (by kernel_rfl) K s
theorem i0t_eq (K : List Item) (s : St) : den prog ann 73 (.code i0t :: K) s = den prog ann 73 (K) s := den_flat hf (l := []) (by kernel_rfl) K s
theorem i0e_eq (K : List Item) (s : St) : den prog ann 73 (.code i0e :: K) s = den prog ann 73 (.code (.exit 0) :: K) s := den_flat hf (l := [(.exit 0)]) (by kernel_rfl) K s
theorem k1_eq (K : List Item) (s : St) : den prog ann 73 (.code k1 :: K) s = den prog ann 73 (.code r5 :: .code r6 :: .code r7 :: .code i1 :: .inBlock 1 :: K) s := den_blk hf (b := blkOf k1) (l := [r5, r6, r7, i1]) (by kernel_rfl) (by kernel_rfl) K s
theorem r5_eq (K : List Item) (s : St) : den prog ann 73 (.code r5 :: K) s = mreg prog ann 73 none [] none [] [
    ⟨some 17, none, .v fun s => loadF true 4 (s.get 3)⟩,
    ⟨some 7, none, .w false none fun s => newPtr s.m [.int .i64 0, .int .i64 0, .int .i64 0, .int .i64 0]⟩,
    ⟨none, none, .w false none fun s => stA true 4 s.m (s.get 7) (s.get 17)⟩] K s := (den_reg hf _ K s).trans (by kernel_rfl)
theorem r6_eq (K : List Item) (s : St) : den prog ann 73 (.code r6 :: K) s = mreg prog ann 73 none [] none [] [
    ⟨some 18, none, .v fun s => some (s.get 6)⟩,
    ⟨some 19, none, .v fun s => idxArr 4 1 (s.get 7) (s.get 18)⟩,
    ⟨some 20, none, .v fun s => loadA false 1 s.m (s.get 19)⟩,
    ⟨some 21, none, .v fun s => binA prog .add 3 (s.get 20) (.int .i64 1)⟩,
    ⟨some 22, none, .v fun s => idxArr 4 1 (s.get 7) (s.get 18)⟩,
    ⟨none, none, .w false none fun s => stA false 1 s.m (s.get 22) (s.get 21)⟩] K s := (den_reg hf _ K s).trans (by kernel_rfl)
theorem r7_draw : drawOk (fun g => (ann g).pure) (modeOf (ann 73) (idOf r7)) (frzOf (ann 73) (idOf r7)) (opsOf r7) = true := drawOk_of (an := [0, 1, 3, 0, 0, 8, 40, 120, 248, 511, 1023, 2047, 2047, 8191, 16383]) (by kernel_rfl) (by kernel_rfl)
theorem r7_eq (K : List Item) (s : St) : den prog ann 73 (.code r7 :: K) s = mreg prog ann 73 none [] (some 15) [] [
    ⟨some 23, none, .v fun s => some (s.get 6)⟩,
    ⟨some 24, none, .v fun s => idxArr 4 1 (s.get 7) (s.get 23)⟩,
    ⟨some 25, none, .v fun s => loadA false 1 s.m (s.get 24)⟩,
    ⟨some 26, none, .v fun s => some (s.get 0)⟩,
    ⟨some 27, none, .v fun s => some (s.get 6)⟩,
    ⟨some 28, none, .v fun s => nilA (s.get 26)⟩,
    ⟨some 29, none, .v fun s => fieldA 1 (s.get 28)⟩,
    ⟨some 30, none, .v fun s => idxArr 4 1 (s.get 29) (s.get 27)⟩,
    ⟨some 31, none, .v fun s => loadF false 1 (s.get 30)⟩,
    ⟨some 32, none, .v fun s => binA prog .leq 3 (s.get 25) (s.get 31)⟩,
    ⟨some 33, none, .v fun s => some (s.get 32)⟩,
    ⟨some 34, some (33, true), .v fun s => some (s.get 0)⟩,
    ⟨some 35, some (33, true), .v fun s => loadA true 4 s.m (s.get 7)⟩,
    ⟨some 36, some (33, true), .c 0 (fun s => (.fn 72 [] [])) fun s => [(s.get 34), (s.get 35)]⟩,
    ⟨some 37, none, .v fun s => pickA (s.get 33) (s.get 36) (.bool false)⟩] K s := (den_regD hf r7_draw K s).trans (by kernel_rfl)
theorem i1_eq (K : List Item) (s : St) : den prog ann 73 (.code i1 :: K) s = ifV prog ann 73 37 i1t i1e K s (s.get 37) := den_if hf (by kernel_rfl) K s
theorem i1t_eq (K : List Item) (s : St) : den prog ann 73 (.code i1t :: K) s = den prog ann 73 (.code r8 :: K) s := den_flat hf (l := [r8]) (by kernel_rfl) K s
theorem r8_eq (K : List Item) (s : St) : den prog ann 73 (.code r8 :: K) s = mreg prog ann 73 none [] none [] [
    ⟨some 38, none, .v fun s => some (s.get 5)⟩,
    ⟨some 39, none, .v fun s => loadA true 4 s.m (s.get 7)⟩,
    ⟨some 40, none, .v fun s => bslF 1 (bslA 4 1 [.int .i64 0, .int .i64 0, .int .i64 0, .int .i64 0] [(0, (s.get 39))])⟩,
    ⟨some 41, none, .w false none fun s => appendA 4 32 s.m (s.get 38) (s.get 40)⟩,
    ⟨some 5, none, .v fun s => some (s.get 41)⟩] K s := (den_reg hf _ K s).trans (by kernel_rfl)
theorem i1e_eq (K : List Item) (s : St) : den prog ann 73 (.code i1e :: K) s = den prog ann 73 (K) s := den_flat hf (l := []) (by kernel_rfl) K s
theorem r4_eq (K : List Item) (s : St) : den prog ann 73 (.code r4 :: K) s = mreg prog ann 73 (some [0, 3, 5, 6]) [] none [] [
    ⟨some 15, none, .v fun s => some (s.get 6)⟩,
    ⟨some 16, none, .v fun s => binA prog .sub 3 (s.get 15) (.int .i64 1)⟩,
    ⟨some 6, none, .v fun s => some (s.get 16)⟩] K s := (den_reg hf _ K s).trans (by kernel_rfl)
theorem r9_eq (K : List Item) (s : St) : den prog ann 73 (.code r9 :: K) s = mreg prog ann 73 (some [5]) [] none [] [
    ⟨some 42, none, .v fun s => some (s.get 5)⟩,
    ⟨some 4, none, .v fun s => some (s.get 42)⟩] K s := (den_reg hf _ K s).trans (by kernel_rfl)
theorem ret_eq (K : List Item) (s : St) : den prog ann 73 (.code .ret :: K) s = finM true [fun s => some (s.get 4)] s := (den_ret hf K s).trans (by kernel_rfl)
theorem nil_eq (s : St) : den prog ann 73 [] s = finM true [fun s => some (s.get 4)] s := (den_nil hf s).trans (by kernel_rfl)
theorem inBlock_eq (id : Nat) (K : List Item) (s : St) : den prog ann 73 (.inBlock id :: K) s = den prog ann 73 K s := den_inBlock hf id K s
theorem exit_eq (id : Nat) (K : List Item) (s : St) : den prog ann 73 (.code (.exit id) :: K) s = exitV prog ann 73 (exitTo id K) s := den_exitV hf id K s
theorem call_eq (v0 v1 : AV) (m : Mem) (h : closedL [v0, v1] = true) : denC prog ann 73 [v0, v1] m = (den prog ann 73 [.code b] ⟨[(0, v0), (1, v1)], 43, Mem.empty⟩).bind fun r => some (r.1, m) := (denC_pure hf (b := b) (by kernel_rfl) (by kernel_rfl) (by kernel_rfl) h m).trans (by kernel_rfl)
theorem pure_eq : (ann 73).pure = true := by kernel_rfl
attribute [simp] b_eq r0_eq r1_eq r2_eq k0_eq l0_eq r3_eq i0_eq i0t_eq i0e_eq k1_eq r5_eq r6_eq r7_eq i1_eq i1t_eq r8_eq i1e_eq r4_eq r9_eq ret_eq nil_eq inBlock_eq exit_eq pure_eq
end watch_story_next

namespace r09_Possibly
/-- pommel/pommelref09.Possibly -/
noncomputable def b : Code := (Try.f40.body).getD .skip
theorem hf : prog.funcs[40]? = some Try.f40 := by kernel_rfl
noncomputable def r0 : Code := findReg b 0
noncomputable def r1 : Code := findReg b 1
noncomputable def r2 : Code := findReg b 2
noncomputable def k0 : Code := findBlk b 0
noncomputable def l0 : Code := loopOf k0
noncomputable def L0 (x1 x2 x5 x6 : AV) (m : Mem) (K : List Item) : Option Res := den prog ann 40 (.code l0 :: .inLoop l0 :: .inBlock 0 :: K) ⟨[(1, x1), (2, x2), (5, x5), (6, x6)], 36, m⟩
noncomputable def r3 : Code := findReg b 3
noncomputable def i0 : Code := findCond b 0
noncomputable def i0t : Code := thenOf i0
noncomputable def i0e : Code := elseOf i0
noncomputable def k1 : Code := findBlk b 1
noncomputable def r5 : Code := findReg b 5
noncomputable def i1 : Code := findCond b 1
noncomputable def i1t : Code := thenOf i1
noncomputable def i1e : Code := elseOf i1
noncomputable def r6 : Code := findReg b 6
noncomputable def r4 : Code := findReg b 4
noncomputable def r7 : Code := findReg b 7
theorem b_eq (K : List Item) (s : St) : den prog ann 40 (.code b :: K) s = den prog ann 40 (.code r0 :: .code r1 :: .code r2 :: .code k0 :: .code r7 :: .code .ret :: K) s := den_flat hf (l := [r0, r1, r2, k0, r7, .ret]) (by kernel_rfl) K s
theorem r0_eq (K : List Item) (s : St) : den prog ann 40 (.code r0 :: K) s = mreg prog ann 40 none [] none [] [
    ⟨some 2, none, .v fun s => frozenPtr (s.get 0)⟩,
    ⟨some 4, none, .v fun s => some (.nils)⟩] K s := (den_reg hf _ K s).trans (by kernel_rfl)
theorem r1_eq (K : List Item) (s : St) : den prog ann 40 (.code r1 :: K) s = mreg prog ann 40 none [] none [] [
    ⟨some 5, none, .v fun s => some (.nils)⟩] K s := (den_reg hf _ K s).trans (by kernel_rfl)
theorem r2_eq (K : List Item) (s : St) : den prog ann 40 (.code r2 :: K) s = mreg prog ann 40 none [] none [] [
    ⟨some 6, none, .v fun s => some (.int .i64 0)⟩] K s := (den_reg hf _ K s).trans (by kernel_rfl)
theorem k0_eq (K : List Item) (t : List (Nat × AV)) (m : Mem) : den prog ann 40 (.code k0 :: K) ⟨t, 36, m⟩ = L0 (get t 1) (get t 2) (get t 5) (get t 6) m K := den_loop_enter hf (b := l0) (id := 3) (l := [1, 2, 5, 6]) (by kernel_rfl) (by kernel_rfl) (by kernel_rfl) K _
theorem l0_eq (K : List Item) (t : List (Nat × AV)) (m : Mem) : den prog ann 40 (.inLoop l0 :: .inBlock 0 :: K) ⟨t, 36, m⟩ = L0 (get t 1) (get t 2) (get t 5) (get t 6) m K := den_loop_again hf (id := 3) (l := [1, 2, 5, 6]) (by kernel_rfl) (by kernel_rfl) (.inBlock 0 :: K) _
theorem L0_eq (x1 x2 x5 x6 : AV) (m : Mem) (K : List Item) : L0 x1 x2 x5 x6 m K = den prog ann 40 (.code r3 :: .code i0 :: .code k1 :: .code r4 :: .inLoop l0 :: .inBlock 0 :: K) ⟨[(1, x1), (2, x2), (5, x5), (6, x6)], 36, m⟩ := den_flat hf (l := [r3, i0, k1, r4]) (by kernel_rfl) _ _
theorem r3_eq (K : List Item) (s : St) : den prog ann 40 (.code r3 :: K) s = mreg prog ann 40 (some [1, 2, 5, 6]) [] none [] [
    ⟨some 7, none, .v fun s => some (s.get 6)⟩,
    ⟨some 8, none, .v fun s => some (s.get 1)⟩,
    ⟨some 9, none, .v fun s => lenSl (s.get 8)⟩,
    ⟨some 10, none, .v fun s => binA prog .lss 3 (s.get 7) (s.get 9)⟩] K s := (den_reg hf _ K s).trans (by kernel_rfl)
theorem i0_eq (K : List Item) (s : St) : den prog ann 40 (.code i0 :: K) s = ifV prog ann 40 10 i0t i0e K s (s.get 10) := den_if hf (by kernel_rfl) K s
theorem i0t_eq (K : List Item) (s : St) : den prog ann 40 (.code i0t :: K) s = den prog ann 40 (K) s := den_flat hf (l := []) (by kernel_rfl) K s
theorem i0e_eq (K : List Item) (s : St) : den prog ann 40 (.code i0e :: K) s = den prog ann 40 (.code (.exit 0) :: K) s := den_flat hf (l := [(.exit 0)]) (by kernel_rfl) K s
theorem k1_eq (K : List Item) (s : St) : den prog ann 40 (.code k1 :: K) s = den prog ann 40 (.code r5 :: .code i1 :: .inBlock 1 :: K) s := den_blk hf (b := blkOf k1) (l := [r5, i1]) (by kernel_rfl) (by kernel_rfl) K s
theorem r5_draw : drawOk (fun g => (ann g).pure) (modeOf (ann 40) (idOf r5)) (frzOf (ann 40) (idOf r5)) (opsOf r5) = true := drawOk_of (an := [0, 0, 0, 6, 14, 31, 63, 127, 255, 511, 1023, 1023, 4095, 8191, 1023, 32767, 65535, 131071]) (by kernel_rfl) (by kernel_rfl)
theorem r5_eq (K : List Item) (s : St) : den prog ann 40 (.code r5 :: K) s = mreg prog ann 40 none [] (some 18) [] [
    ⟨some 13, none, .v fun s => loadF true 2 (s.get 2)⟩,
    ⟨some 14, none, .v fun s => some (s.get 1)⟩,
    ⟨some 15, none, .v fun s => some (s.get 6)⟩,
    ⟨some 16, none, .v fun s => idxSl 1 (s.get 14) (s.get 15)⟩,
    ⟨some 17, none, .v fun s => loadF false 1 (s.get 16)⟩,
    ⟨some 18, none, .c 0 (fun s => (.fn 66 [] [])) fun s => [(s.get 13), (s.get 17)]⟩,
    ⟨some 19, none, .v fun s => some (s.get 18)⟩,
    ⟨some 20, some (19, true), .v fun s => some (s.get 5)⟩,
    ⟨some 21, some (19, true), .v fun s => binA prog .eql 22 (s.get 20) (.nils)⟩,
    ⟨some 22, some (19, true), .v fun s => some (s.get 21)⟩,
    ⟨some 23, some (22, false), .v fun s => some (s.get 1)⟩,
    ⟨some 24, some (22, false), .v fun s => some (s.get 6)⟩,
    ⟨some 25, some (22, false), .v fun s => idxSl 1 (s.get 23) (s.get 24)⟩,
    ⟨some 26, some (22, false), .v fun s => loadF false 1 (s.get 25)⟩,
    ⟨some 27, some (22, false), .v fun s => some (s.get 5)⟩,
    ⟨some 28, some (22, false), .c 0 (fun s => (.fn 67 [] [])) fun s => [(s.get 26), (s.get 27)]⟩,
    ⟨some 29, some (19, true), .v fun s => pickA (s.get 22) (.bool true) (s.get 28)⟩,
    ⟨some 30, none, .v fun s => pickA (s.get 19) (s.get 29) (.bool false)⟩] K s := (den_regD hf r5_draw K s).trans (by kernel_rfl)
theorem i1_eq (K : List Item) (s : St) : den prog ann 40 (.code i1 :: K) s = ifV prog ann 40 30 i1t i1e K s (s.get 30) := den_if hf (by kernel_rfl) K s
theorem i1t_eq (K : List Item) (s : St) : den prog ann 40 (.code i1t :: K) s = den prog ann 40 (.code r6 :: K) s := den_flat hf (l := [r6]) (by kernel_rfl) K s
theorem r6_eq (K : List Item) (s : St) : den prog ann 40 (.code r6 :: K) s = mreg prog ann 40 none [] none [] [
    ⟨some 31, none, .v fun s => some (s.get 1)⟩,
    ⟨some 32, none, .v fun s => some (s.get 6)⟩,
    ⟨some 33, none, .v fun s => idxSl 1 (s.get 31) (s.get 32)⟩,
    ⟨some 34, none, .v fun s => loadF false 1 (s.get 33)⟩,
    ⟨some 5, none, .v fun s => some (s.get 34)⟩] K s := (den_reg hf _ K s).trans (by kernel_rfl)
theorem i1e_eq (K : List Item) (s : St) : den prog ann 40 (.code i1e :: K) s = den prog ann 40 (K) s := den_flat hf (l := []) (by kernel_rfl) K s
theorem r4_eq (K : List Item) (s : St) : den prog ann 40 (.code r4 :: K) s = mreg prog ann 40 (some [1, 2, 5, 6]) [] none [] [
    ⟨some 11, none, .v fun s => some (s.get 6)⟩,
    ⟨some 12, none, .v fun s => binA prog .add 3 (s.get 11) (.int .i64 1)⟩,
    ⟨some 6, none, .v fun s => some (s.get 12)⟩] K s := (den_reg hf _ K s).trans (by kernel_rfl)
theorem r7_eq (K : List Item) (s : St) : den prog ann 40 (.code r7 :: K) s = mreg prog ann 40 (some [5]) [] none [] [
    ⟨some 35, none, .v fun s => some (s.get 5)⟩,
    ⟨some 4, none, .v fun s => some (s.get 35)⟩] K s := (den_reg hf _ K s).trans (by kernel_rfl)
theorem ret_eq (K : List Item) (s : St) : den prog ann 40 (.code .ret :: K) s = finM true [fun s => some (s.get 4)] s := (den_ret hf K s).trans (by kernel_rfl)
theorem nil_eq (s : St) : den prog ann 40 [] s = finM true [fun s => some (s.get 4)] s := (den_nil hf s).trans (by kernel_rfl)
theorem inBlock_eq (id : Nat) (K : List Item) (s : St) : den prog ann 40 (.inBlock id :: K) s = den prog ann 40 K s := den_inBlock hf id K s
theorem exit_eq (id : Nat) (K : List Item) (s : St) : den prog ann 40 (.code (.exit id) :: K) s = exitV prog ann 40 (exitTo id K) s := den_exitV hf id K s
theorem call_eq (v0 v1 : AV) (m : Mem) (h : closedL [v0, v1] = true) : denC prog ann 40 [v0, v1] m = (den prog ann 40 [.code b] ⟨[(0, v0), (1, v1)], 36, Mem.empty⟩).bind fun r => some (r.1, m) := (denC_pure hf (b := b) (by kernel_rfl) (by kernel_rfl) (by kernel_rfl) h m).trans (by kernel_rfl)
theorem pure_eq : (ann 40).pure = true := by kernel_rfl
attribute [simp] b_eq r0_eq r1_eq r2_eq k0_eq l0_eq r3_eq i0_eq i0t_eq i0e_eq k1_eq r5_eq i1_eq i1t_eq r6_eq i1e_eq r4_eq r7_eq ret_eq nil_eq inBlock_eq exit_eq pure_eq
end r09_Possibly

namespace r09_Definitely
/-- pommel/pommelref09.Definitely -/
noncomputable def b : Code := (Try.f41.body).getD .skip
theorem hf : prog.funcs[41]? = some Try.f41 := by kernel_rfl
noncomputable def r0 : Code := findReg b 0
noncomputable def r1 : Code := findReg b 1
noncomputable def r2 : Code := findReg b 2
noncomputable def r3 : Code := findReg b 3
noncomputable def k0 : Code := findBlk b 0
noncomputable def l0 : Code := loopOf k0
noncomputable def L0 (x1 x2 x5 x6 x7 : AV) (m : Mem) (K : List Item) : Option Res := den prog ann 41 (.code l0 :: .inLoop l0 :: .inBlock 0 :: K) ⟨[(1, x1), (2, x2), (5, x5), (6, x6), (7, x7)], 98, m⟩
noncomputable def r4 : Code := findReg b 4
noncomputable def i0 : Code := findCond b 0
noncomputable def i0t : Code := thenOf i0
noncomputable def i0e : Code := elseOf i0
noncomputable def k1 : Code := findBlk b 1
noncomputable def r6 : Code := findReg b 6
noncomputable def i1 : Code := findCond b 1
noncomputable def i1t : Code := thenOf i1
noncomputable def i1e : Code := elseOf i1
noncomputable def r7 : Code := findReg b 7
noncomputable def r8 : Code := findReg b 8
noncomputable def k2 : Code := findBlk b 2
noncomputable def l2 : Code := loopOf k2
noncomputable def L2 (x1 x2 x5 x6 x7 x8 x9 : AV) (m : Mem) (K : List Item) : Option Res := den prog ann 41 (.code l2 :: .inLoop l2 :: .inBlock 2 :: K) ⟨[(1, x1), (2, x2), (5, x5), (6, x6), (7, x7), (8, x8), (9, x9)], 98, m⟩
noncomputable def r9 : Code := findReg b 9
noncomputable def i2 : Code := findCond b 2
noncomputable def i2t : Code := thenOf i2
noncomputable def i2e : Code := elseOf i2
noncomputable def k3 : Code := findBlk b 3
noncomputable def r11 : Code := findReg b 11
noncomputable def r10 : Code := findReg b 10
noncomputable def r12 : Code := findReg b 12
noncomputable def r5 : Code := findReg b 5
noncomputable def r13 : Code := findReg b 13
noncomputable def r14 : Code := findReg b 14
noncomputable def i3 : Code := findCond b 3
noncomputable def i3t : Code := thenOf i3
noncomputable def i3e : Code := elseOf i3
noncomputable def r15 : Code := findReg b 15
noncomputable def r16 : Code := findReg b 16
noncomputable def k4 : Code := findBlk b 4
noncomputable def l4 : Code := loopOf k4
noncomputable def L4 (x2 x6 x10 x11 : AV) (m : Mem) (K : List Item) : Option Res := den prog ann 41 (.code l4 :: .inLoop l4 :: .inBlock 4 :: K) ⟨[(2, x2), (6, x6), (10, x10), (11, x11)], 98, m⟩
noncomputable def r17 : Code := findReg b 17
noncomputable def i4 : Code := findCond b 4
noncomputable def i4t : Code := thenOf i4
noncomputable def i4e : Code := elseOf i4
noncomputable def k5 : Code := findBlk b 5
noncomputable def r18 : Code := findReg b 18
noncomputable def k6 : Code := findBlk b 6
noncomputable def l6 : Code := loopOf k6
noncomputable def L6 (x2 x6 x10 x11 x12 : AV) (m : Mem) (K : List Item) : Option Res := den prog ann 41 (.code l6 :: .inLoop l6 :: .inBlock 6 :: K) ⟨[(2, x2), (6, x6), (10, x10), (11, x11), (12, x12)], 98, m⟩
noncomputable def r19 : Code := findReg b 19
noncomputable def i5 : Code := findCond b 5
noncomputable def i5t : Code := thenOf i5
noncomputable def i5e : Code := elseOf i5
noncomputable def k7 : Code := findBlk b 7
noncomputable def r21 : Code := findReg b 21
noncomputable def i6 : Code := findCond b 6
noncomputable def i6t : Code := thenOf i6
noncomputable def i6e : Code := elseOf i6
noncomputable def r22 : Code := findReg b 22
noncomputable def r20 : Code := findReg b 20
noncomputable def r23 : Code := findReg b 23
noncomputable def r24 : Code := findReg b 24
theorem b_eq (K : List Item) (s : St) : den prog ann 41 (.code b :: K) s = den prog ann 41 (.code r0 :: .code r1 :: .code r2 :: .code r3 :: .code k0 :: .code r13 :: .code r14 :: .code i3 :: .code r16 :: .code k4 :: .code r24 :: .code .ret :: K) s := den_flat hf (l := [r0, r1, r2, r3, k0, r13, r14, i3, r16, k4, r24, .ret]) (by kernel_rfl) K s
theorem r0_eq (K : List Item) (s : St) : den prog ann 41 (.code r0 :: K) s = mreg prog ann 41 none [] none [] [
    ⟨some 2, none, .v fun s => frozenPtr (s.get 0)⟩,
    ⟨some 4, none, .v fun s => some (.nils)⟩] K s := (den_reg hf _ K s).trans (by kernel_rfl)
theorem r1_eq (K : List Item) (s : St) : den prog ann 41 (.code r1 :: K) s = mreg prog ann 41 none [] none [] [
    ⟨some 13, none, .v fun s => loadF true 2 (s.get 2)⟩,
    ⟨some 14, none, .c 0 (fun s => (.fn 20 [] [])) fun s => [(s.get 13)]⟩,
    ⟨some 5, none, .v fun s => some (s.get 14)⟩] K s := (den_reg hf _ K s).trans (by kernel_rfl)
theorem r2_eq (K : List Item) (s : St) : den prog ann 41 (.code r2 :: K) s = mreg prog ann 41 none [] none [] [
    ⟨some 15, none, .w false none fun s => some (.map s.m.nx, s.m.new (.map 0 [] []))⟩,
    ⟨some 6, none, .v fun s => some (s.get 15)⟩] K s := (den_reg hf _ K s).trans (by kernel_rfl)
theorem r3_eq (K : List Item) (s : St) : den prog ann 41 (.code r3 :: K) s = mreg prog ann 41 none [] none [] [
    ⟨some 16, none, .v fun s => some (s.get 5)⟩,
    ⟨some 17, none, .v fun s => lenSl (s.get 16)⟩,
    ⟨some 18, none, .v fun s => binA prog .sub 3 (s.get 17) (.int .i64 1)⟩,
    ⟨some 7, none, .v fun s => some (s.get 18)⟩] K s := (den_reg hf _ K s).trans (by kernel_rfl)
theorem k0_eq (K : List Item) (t : List (Nat × AV)) (m : Mem) : den prog ann 41 (.code k0 :: K) ⟨t, 98, m⟩ = L0 (get t 1) (get t 2) (get t 5) (get t 6) (get t 7) m K := den_loop_enter hf (b := l0) (id := 4) (l := [1, 2, 5, 6, 7]) (by kernel_rfl) (by kernel_rfl) (by kernel_rfl) K _
theorem l0_eq (K : List Item) (t : List (Nat × AV)) (m : Mem) : den prog ann 41 (.inLoop l0 :: .inBlock 0 :: K) ⟨t, 98, m⟩ = L0 (get t 1) (get t 2) (get t 5) (get t 6) (get t 7) m K := den_loop_again hf (id := 4) (l := [1, 2, 5, 6, 7]) (by kernel_rfl) (by kernel_rfl) (.inBlock 0 :: K) _
theorem L0_eq (x1 x2 x5 x6 x7 : AV) (m : Mem) (K : List Item) : L0 x1 x2 x5 x6 x7 m K = den prog ann 41 (.code r4 :: .code i0 :: .code k1 :: .code r5 :: .inLoop l0 :: .inBlock 0 :: K) ⟨[(1, x1), (2, x2), (5, x5), (6, x6), (7, x7)], 98, m⟩ := den_flat hf (l := [r4, i0, k1, r5]) (by kernel_rfl) _ _
theorem r4_eq (K : List Item) (s : St) : den prog ann 41 (.code r4 :: K) s = mreg prog ann 41 (some [1, 2, 5, 6, 7]) [] none [] [
    ⟨some 19, none, .v fun s => some (s.get 7)⟩,
    ⟨some 20, none, .v fun s => binA prog .geq 3 (s.get 19) (.int .i64 0)⟩] K s := (den_reg hf _ K s).trans (by kernel_rfl)
theorem i0_eq (K : List Item) (s : St) : den prog ann 41 (.code i0 :: K) s = ifV prog ann 41 20 i0t i0e K s (s.get 20) := den_if hf (by kernel_rfl) K s
theorem i0t_eq (K : List Item) (s : St) : den prog ann 41 (.code i0t :: K) s = den prog ann 41 (K) s := den_flat hf (l := []) (by kernel_rfl) K s
theorem i0e_eq (K : List Item) (s : St) : den prog ann 41 (.code i0e :: K) s = den prog ann 41 (.code (.exit 0) :: K) s := den_flat hf (l := [(.exit 0)]) (by kernel_rfl) K s
theorem k1_eq (K : List Item) (s : St) : den prog ann 41 (.code k1 :: K) s = den prog ann 41 (.code r6 :: .code i1 :: .code r7 :: .code r8 :: .code k2 :: .code r12 :: .inBlock 1 :: K) s := den_blk hf (b := blkOf k1) (l := [r6, i1, r7, r8, k2, r12]) (by kernel_rfl) (by kernel_rfl) K s
theorem r6_eq (K : List Item) (s : St) : den prog ann 41 (.code r6 :: K) s = mreg prog ann 41 none [] none [] [
    ⟨some 23, none, .v fun s => some (s.get 1)⟩,
    ⟨some 24, none, .v fun s => some (s.get 5)⟩,
    ⟨some 25, none, .v fun s => some (s.get 7)⟩,
    ⟨some 26, none, .v fun s => idxSl 1 (s.get 24) (s.get 25)⟩,
    ⟨some 27, none, .v fun s => loadF false 1 (s.get 26)⟩,
    ⟨some 28, none, .c 0 (fun s => (.fn 78 [] [])) fun s => [(s.get 23), (s.get 27)]⟩] K s := (den_reg hf _ K s).trans (by kernel_rfl)
theorem i1_eq (K : List Item) (s : St) : den prog ann 41 (.code i1 :: K) s = ifV prog ann 41 28 i1t i1e K s (s.get 28) := den_if hf (by kernel_rfl) K s
theorem i1t_eq (K : List Item) (s : St) : den prog ann 41 (.code i1t :: K) s = den prog ann 41 (.code (.exit 1) :: K) s := den_flat hf (l := [(.exit 1)]) (by kernel_rfl) K s
theorem i1e_eq (K : List Item) (s : St) : den prog ann 41 (.code i1e :: K) s = den prog ann 41 (K) s := den_flat hf (l := []) (by kernel_rfl) K s
theorem r7_eq (K : List Item) (s : St) : den prog ann 41 (.code r7 :: K) s = mreg prog ann 41 none [] none [] [
    ⟨some 29, none, .v fun s => some (s.get 7)⟩,
    ⟨some 30, none, .v fun s => some (s.get 5)⟩,
    ⟨some 31, none, .v fun s => lenSl (s.get 30)⟩,
    ⟨some 32, none, .v fun s => binA prog .sub 3 (s.get 31) (.int .i64 1)⟩,
    ⟨some 33, none, .v fun s => binA prog .eql 3 (s.get 29) (s.get 32)⟩,
    ⟨some 8, none, .v fun s => some (s.get 33)⟩] K s := (den_reg hf _ K s).trans (by kernel_rfl)
theorem r8_eq (K : List Item) (s : St) : den prog ann 41 (.code r8 :: K) s = mreg prog ann 41 none [] none [] [
    ⟨some 9, none, .v fun s => some (.int .i64 0)⟩] K s := (den_reg hf _ K s).trans (by kernel_rfl)
theorem k2_eq (K : List Item) (t : List (Nat × AV)) (m : Mem) : den prog ann 41 (.code k2 :: K) ⟨t, 98, m⟩ = L2 (get t 1) (get t 2) (get t 5) (get t 6) (get t 7) (get t 8) (get t 9) m K := den_loop_enter hf (b := l2) (id := 9) (l := [1, 2, 5, 6, 7, 8, 9]) (by kernel_rfl) (by kernel_rfl) (by kernel_rfl) K _
theorem l2_eq (K : List Item) (t : List (Nat × AV)) (m : Mem) : den prog ann 41 (.inLoop l2 :: .inBlock 2 :: K) ⟨t, 98, m⟩ = L2 (get t 1) (get t 2) (get t 5) (get t 6) (get t 7) (get t 8) (get t 9) m K := den_loop_again hf (id := 9) (l := [1, 2, 5, 6, 7, 8, 9]) (by kernel_rfl) (by kernel_rfl) (.inBlock 2 :: K) _
theorem L2_eq (x1 x2 x5 x6 x7 x8 x9 : AV) (m : Mem) (K : List Item) : L2 x1 x2 x5 x6 x7 x8 x9 m K = den prog ann 41 (.code r9 :: .code i2 :: .code k3 :: .code r10 :: .inLoop l2 :: .inBlock 2 :: K) ⟨[(1, x1), (2, x2), (5, x5), (6, x6), (7, x7), (8, x8), (9, x9)], 98, m⟩ := den_flat hf (l := [r9, i2, k3, r10]) (by kernel_rfl) _ _
theorem r9_eq (K : List Item) (s : St) : den prog ann 41 (.code r9 :: K) s = mreg prog ann 41 (some [1, 2, 5, 6, 7, 8, 9]) [] none [] [
    ⟨some 34, none, .v fun s => some (s.get 9)⟩,
    ⟨some 35, none, .v fun s => some (s.get 5)⟩,
    ⟨some 36, none, .v fun s => some (s.get 7)⟩,
    ⟨some 37, none, .v fun s => idxSl 1 (s.get 35) (s.get 36)⟩,
    ⟨some 38, none, .v fun s => loadF false 1 (s.get 37)⟩,
    ⟨some 39, none, .v fun s => lenSl (s.get 38)⟩,
    ⟨some 40, none, .v fun s => binA prog .lss 3 (s.get 34) (s.get 39)⟩] K s := (den_reg hf _ K s).trans (by kernel_rfl)
theorem i2_eq (K : List Item) (s : St) : den prog ann 41 (.code i2 :: K) s = ifV prog ann 41 40 i2t i2e K s (s.get 40) := den_if hf (by kernel_rfl) K s
theorem i2t_eq (K : List Item) (s : St) : den prog ann 41 (.code i2t :: K) s = den prog ann 41 (K) s := den_flat hf (l := []) (by kernel_rfl) K s
theorem i2e_eq (K : List Item) (s : St) : den prog ann 41 (.code i2e :: K) s = den prog ann 41 (.code (.exit 2) :: K) s := den_flat hf (l := [(.exit 2)]) (by kernel_rfl) K s
theorem k3_eq (K : List Item) (s : St) : den prog ann 41 (.code k3 :: K) s = den prog ann 41 (.code r11 :: .inBlock 3 :: K) s := den_blk hf (b := blkOf k3) (l := [r11]) (by kernel_rfl) (by kernel_rfl) K s
theorem r11_eq (K : List Item) (s : St) : den prog ann 41 (.code r11 :: K) s = mreg prog ann 41 none [] none [] [
    ⟨some 43, none, .v fun s => some (s.get 8)⟩,
    ⟨some 44, none, .v fun s => some (s.get 43)⟩,
    ⟨some 45, some (44, false), .v fun s => some (s.get 6)⟩,
    ⟨some 46, some (44, false), .v fun s => some (s.get 5)⟩,
    ⟨some 47, some (44, false), .v fun s => some (s.get 7)⟩,
    ⟨some 48, some (44, false), .v fun s => idxSl 1 (s.get 46) (s.get 47)⟩,
    ⟨some 49, some (44, false), .v fun s => loadF false 1 (s.get 48)⟩,
    ⟨some 50, some (44, false), .v fun s => some (s.get 9)⟩,
    ⟨some 51, some (44, false), .c 0 (fun s => (.fn 80 [] [])) fun s => [(s.get 49), (s.get 50)]⟩,
    ⟨some 52, some (44, false), .c 0 (fun s => (.fn 79 [] [])) fun s => [(s.get 51), (.int .i64 (-1))]⟩,
    ⟨some 53, some (44, false), .v fun s => lookP prog s.m 9 (.bool false) (s.get 45) (s.get 52) false⟩,
    ⟨some 54, none, .v fun s => pickA (s.get 44) (.bool true) (s.get 53)⟩,
    ⟨some 8, none, .v fun s => some (s.get 54)⟩] K s := (den_reg hf _ K s).trans (by kernel_rfl)
theorem r10_eq (K : List Item) (s : St) : den prog ann 41 (.code r10 :: K) s = mreg prog ann 41 (some [1, 2, 5, 6, 7, 8, 9]) [] none [] [
    ⟨some 41, none, .v fun s => some (s.get 9)⟩,
    ⟨some 42, none, .v fun s => binA prog .add 3 (s.get 41) (.int .i64 1)⟩,
    ⟨some 9, none, .v fun s => some (s.get 42)⟩] K s := (den_reg hf _ K s).trans (by kernel_rfl)
theorem r12_eq (K : List Item) (s : St) : den prog ann 41 (.code r12 :: K) s = mreg prog ann 41 (some [1, 2, 5, 6, 7, 8]) [] none [] [
    ⟨some 55, none, .v fun s => some (s.get 6)⟩,
    ⟨some 56, none, .v fun s => some (s.get 5)⟩,
    ⟨some 57, none, .v fun s => some (s.get 7)⟩,
    ⟨some 58, none, .v fun s => idxSl 1 (s.get 56) (s.get 57)⟩,
    ⟨some 59, none, .v fun s => loadF false 1 (s.get 58)⟩,
    ⟨some 60, none, .c 0 (fun s => (.fn 79 [] [])) fun s => [(s.get 59), (.int .i64 (-1))]⟩,
    ⟨some 61, none, .v fun s => some (s.get 8)⟩,
    ⟨none, none, .w false none fun s => updM prog s.m 9 (s.get 55) (s.get 60) (s.get 61)⟩] K s := (den_reg hf _ K s).trans (by kernel_rfl)
theorem r5_eq (K : List Item) (s : St) : den prog ann 41 (.code r5 :: K) s = mreg prog ann 41 (some [1, 2, 5, 6, 7]) [] none [] [
    ⟨some 21, none, .v fun s => some (s.get 7)⟩,
    ⟨some 22, none, .v fun s => binA prog .sub 3 (s.get 21) (.int .i64 1)⟩,
    ⟨some 7, none, .v fun s => some (s.get 22)⟩] K s := (den_reg hf _ K s).trans (by kernel_rfl)
theorem r13_eq (K : List Item) (s : St) : den prog ann 41 (.code r13 :: K) s = mreg prog ann 41 (some [2, 5, 6]) [] none [] [
    ⟨some 62, none, .v fun s => some (s.get 5)⟩,
    ⟨some 63, none, .v fun s => idxSl 1 (s.get 62) (.int .i64 0)⟩,
    ⟨some 64, none, .v fun s => loadF false 1 (s.get 63)⟩,
    ⟨some 10, none, .v fun s => some (s.get 64)⟩] K s := (den_reg hf _ K s).trans (by kernel_rfl)
theorem r14_eq (K : List Item) (s : St) : den prog ann 41 (.code r14 :: K) s = mreg prog ann 41 none [] none [] [
    ⟨some 65, none, .v fun s => some (s.get 6)⟩,
    ⟨some 66, none, .v fun s => some (s.get 10)⟩,
    ⟨some 67, none, .c 0 (fun s => (.fn 79 [] [])) fun s => [(s.get 66), (.int .i64 (-1))]⟩,
    ⟨some 68, none, .v fun s => lookP prog s.m 9 (.bool false) (s.get 65) (s.get 67) false⟩,
    ⟨some 69, none, .v fun s => unA .not (s.get 68)⟩] K s := (den_reg hf _ K s).trans (by kernel_rfl)
theorem i3_eq (K : List Item) (s : St) : den prog ann 41 (.code i3 :: K) s = ifV prog ann 41 69 i3t i3e K s (s.get 69) := den_if hf (by kernel_rfl) K s
theorem i3t_eq (K : List Item) (s : St) : den prog ann 41 (.code i3t :: K) s = den prog ann 41 (.code r15 :: .code .ret :: K) s := den_flat hf (l := [r15, .ret]) (by kernel_rfl) K s
theorem r15_eq (K : List Item) (s : St) : den prog ann 41 (.code r15 :: K) s = mreg prog ann 41 none [] none [] [
    ⟨some 4, none, .v fun s => some (.nils)⟩] K s := (den_reg hf _ K s).trans (by kernel_rfl)
theorem i3e_eq (K : List Item) (s : St) : den prog ann 41 (.code i3e :: K) s = den prog ann 41 (K) s := den_flat hf (l := []) (by kernel_rfl) K s
theorem r16_eq (K : List Item) (s : St) : den prog ann 41 (.code r16 :: K) s = mreg prog ann 41 none [] none [] [
    ⟨some 70, none, .v fun s => some (s.get 10)⟩,
    ⟨some 71, none, .w false none fun s => bslM s.m 1 (bslA 1 1 [.nils] [(0, (s.get 70))])⟩,
    ⟨some 11, none, .v fun s => some (s.get 71)⟩] K s := (den_reg hf _ K s).trans (by kernel_rfl)
theorem k4_eq (K : List Item) (t : List (Nat × AV)) (m : Mem) : den prog ann 41 (.code k4 :: K) ⟨t, 98, m⟩ = L4 (get t 2) (get t 6) (get t 10) (get t 11) m K := den_loop_enter hf (b := l4) (id := 17) (l := [2, 6, 10, 11]) (by kernel_rfl) (by kernel_rfl) (by kernel_rfl) K _
theorem l4_eq (K : List Item) (t : List (Nat × AV)) (m : Mem) : den prog ann 41 (.inLoop l4 :: .inBlock 4 :: K) ⟨t, 98, m⟩ = L4 (get t 2) (get t 6) (get t 10) (get t 11) m K := den_loop_again hf (id := 17) (l := [2, 6, 10, 11]) (by kernel_rfl) (by kernel_rfl) (.inBlock 4 :: K) _
theorem L4_eq (x2 x6 x10 x11 : AV) (m : Mem) (K : List Item) : L4 x2 x6 x10 x11 m K = den prog ann 41 (.code r17 :: .code i4 :: .code k5 :: .inLoop l4 :: .inBlock 4 :: K) ⟨[(2, x2), (6, x6), (10, x10), (11, x11)], 98, m⟩ := den_flat hf (l := [r17, i4, k5]) (by kernel_rfl) _ _
theorem r17_eq (K : List Item) (s : St) : den prog ann 41 (.code r17 :: K) s = mreg prog ann 41 (some [2, 6, 10, 11]) [] none [] [
    ⟨some 72, none, .v fun s => some (s.get 10)⟩,
    ⟨some 73, none, .v fun s => fieldA 0 (s.get 2)⟩,
    ⟨some 74, none, .v fun s => loadF false 1 (s.get 73)⟩,
    ⟨some 75, none, .c 0 (fun s => (.fn 21 [] [])) fun s => [(s.get 72), (s.get 74)]⟩,
    ⟨some 76, none, .v fun s => unA .not (s.get 75)⟩] K s := (den_reg hf _ K s).trans (by kernel_rfl)
theorem i4_eq (K : List Item) (s : St) : den prog ann 41 (.code i4 :: K) s = ifV prog ann 41 76 i4t i4e K s (s.get 76) := den_if hf (by kernel_rfl) K s
theorem i4t_eq (K : List Item) (s : St) : den prog ann 41 (.code i4t :: K) s = den prog ann 41 (K) s := den_flat hf (l := []) (by kernel_rfl) K s
theorem i4e_eq (K : List Item) (s : St) : den prog ann 41 (.code i4e :: K) s = den prog ann 41 (.code (.exit 4) :: K) s := den_flat hf (l := [(.exit 4)]) (by kernel_rfl) K s
theorem k5_eq (K : List Item) (s : St) : den prog ann 41 (.code k5 :: K) s = den prog ann 41 (.code r18 :: .code k6 :: .code r23 :: .inBlock 5 :: K) s := den_blk hf (b := blkOf k5) (l := [r18, k6, r23]) (by kernel_rfl) (by kernel_rfl) K s
theorem r18_eq (K : List Item) (s : St) : den prog ann 41 (.code r18 :: K) s = mreg prog ann 41 none [] none [] [
    ⟨some 77, none, .v fun s => some (s.get 10)⟩,
    ⟨some 78, none, .v fun s => lenSl (s.get 77)⟩,
    ⟨some 79, none, .v fun s => binA prog .sub 3 (s.get 78) (.int .i64 1)⟩,
    ⟨some 12, none, .v fun s => some (s.get 79)⟩] K s := (den_reg hf _ K s).trans (by kernel_rfl)
theorem k6_eq (K : List Item) (t : List (Nat × AV)) (m : Mem) : den prog ann 41 (.code k6 :: K) ⟨t, 98, m⟩ = L6 (get t 2) (get t 6) (get t 10) (get t 11) (get t 12) m K := den_loop_enter hf (b := l6) (id := 19) (l := [2, 6, 10, 11, 12]) (by kernel_rfl) (by kernel_rfl) (by kernel_rfl) K _
theorem l6_eq (K : List Item) (t : List (Nat × AV)) (m : Mem) : den prog ann 41 (.inLoop l6 :: .inBlock 6 :: K) ⟨t, 98, m⟩ = L6 (get t 2) (get t 6) (get t 10) (get t 11) (get t 12) m K := den_loop_again hf (id := 19) (l := [2, 6, 10, 11, 12]) (by kernel_rfl) (by kernel_rfl) (.inBlock 6 :: K) _
theorem L6_eq (x2 x6 x10 x11 x12 : AV) (m : Mem) (K : List Item) : L6 x2 x6 x10 x11 x12 m K = den prog ann 41 (.code r19 :: .code i5 :: .code k7 :: .code r20 :: .inLoop l6 :: .inBlock 6 :: K) ⟨[(2, x2), (6, x6), (10, x10), (11, x11), (12, x12)], 98, m⟩ := den_flat hf (l := [r19, i5, k7, r20]) (by kernel_rfl) _ _
theorem r19_eq (K : List Item) (s : St) : den prog ann 41 (.code r19 :: K) s = mreg prog ann 41 (some [2, 6, 10, 11, 12]) [] none [] [
    ⟨some 80, none, .v fun s => some (s.get 12)⟩,
    ⟨some 81, none, .v fun s => binA prog .geq 3 (s.get 80) (.int .i64 0)⟩] K s := (den_reg hf _ K s).trans (by kernel_rfl)
theorem i5_eq (K : List Item) (s : St) : den prog ann 41 (.code i5 :: K) s = ifV prog ann 41 81 i5t i5e K s (s.get 81) := den_if hf (by kernel_rfl) K s
theorem i5t_eq (K : List Item) (s : St) : den prog ann 41 (.code i5t :: K) s = den prog ann 41 (K) s := den_flat hf (l := []) (by kernel_rfl) K s
theorem i5e_eq (K : List Item) (s : St) : den prog ann 41 (.code i5e :: K) s = den prog ann 41 (.code (.exit 6) :: K) s := den_flat hf (l := [(.exit 6)]) (by kernel_rfl) K s
theorem k7_eq (K : List Item) (s : St) : den prog ann 41 (.code k7 :: K) s = den prog ann 41 (.code r21 :: .code i6 :: .inBlock 7 :: K) s := den_blk hf (b := blkOf k7) (l := [r21, i6]) (by kernel_rfl) (by kernel_rfl) K s
theorem r21_eq (K : List Item) (s : St) : den prog ann 41 (.code r21 :: K) s = mreg prog ann 41 none [] none [] [
    ⟨some 84, none, .v fun s => some (s.get 6)⟩,
    ⟨some 85, none, .v fun s => some (s.get 10)⟩,
    ⟨some 86, none, .v fun s => some (s.get 12)⟩,
    ⟨some 87, none, .c 0 (fun s => (.fn 80 [] [])) fun s => [(s.get 85), (s.get 86)]⟩,
    ⟨some 88, none, .c 0 (fun s => (.fn 79 [] [])) fun s => [(s.get 87), (.int .i64 (-1))]⟩,
    ⟨some 89, none, .v fun s => lookP prog s.m 9 (.bool false) (s.get 84) (s.get 88) false⟩] K s := (den_reg hf _ K s).trans (by kernel_rfl)
theorem i6_eq (K : List Item) (s : St) : den prog ann 41 (.code i6 :: K) s = ifV prog ann 41 89 i6t i6e K s (s.get 89) := den_if hf (by kernel_rfl) K s
theorem i6t_eq (K : List Item) (s : St) : den prog ann 41 (.code i6t :: K) s = den prog ann 41 (.code r22 :: .code (.exit 6) :: K) s := den_flat hf (l := [r22, (.exit 6)]) (by kernel_rfl) K s
theorem r22_eq (K : List Item) (s : St) : den prog ann 41 (.code r22 :: K) s = mreg prog ann 41 none [] none [] [
    ⟨some 90, none, .v fun s => some (s.get 10)⟩,
    ⟨some 91, none, .v fun s => some (s.get 12)⟩,
    ⟨some 92, none, .c 0 (fun s => (.fn 80 [] [])) fun s => [(s.get 90), (s.get 91)]⟩,
    ⟨some 10, none, .v fun s => some (s.get 92)⟩] K s := (den_reg hf _ K s).trans (by kernel_rfl)
theorem i6e_eq (K : List Item) (s : St) : den prog ann 41 (.code i6e :: K) s = den prog ann 41 (K) s := den_flat hf (l := []) (by kernel_rfl) K s
theorem r20_eq (K : List Item) (s : St) : den prog ann 41 (.code r20 :: K) s = mreg prog ann 41 (some [2, 6, 10, 11, 12]) [] none [] [
    ⟨some 82, none, .v fun s => some (s.get 12)⟩,
    ⟨some 83, none, .v fun s => binA prog .sub 3 (s.get 82) (.int .i64 1)⟩,
    ⟨some 12, none, .v fun s => some (s.get 83)⟩] K s := (den_reg hf _ K s).trans (by kernel_rfl)
theorem r23_eq (K : List Item) (s : St) : den prog ann 41 (.code r23 :: K) s = mreg prog ann 41 (some [2, 6, 10, 11]) [] none [] [
    ⟨some 93, none, .v fun s => some (s.get 11)⟩,
    ⟨some 94, none, .v fun s => some (s.get 10)⟩,
    ⟨some 95, none, .v fun s => bslF 1 (bslA 1 1 [.nils] [(0, (s.get 94))])⟩,
    ⟨some 96, none, .w false none fun s => appendA 1 24 s.m (s.get 93) (s.get 95)⟩,
    ⟨some 11, none, .v fun s => some (s.get 96)⟩] K s := (den_reg hf _ K s).trans (by kernel_rfl)
theorem r24_eq (K : List Item) (s : St) : den prog ann 41 (.code r24 :: K) s = mreg prog ann 41 (some [11]) [] none [] [
    ⟨some 97, none, .v fun s => some (s.get 11)⟩,
    ⟨some 4, none, .v fun s => some (s.get 97)⟩] K s := (den_reg hf _ K s).trans (by kernel_rfl)
theorem ret_eq (K : List Item) (s : St) : den prog ann 41 (.code .ret :: K) s = finM true [fun s => some (s.get 4)] s := (den_ret hf K s).trans (by kernel_rfl)
theorem nil_eq (s : St) : den prog ann 41 [] s = finM true [fun s => some (s.get 4)] s := (den_nil hf s).trans (by kernel_rfl)
theorem inBlock_eq (id : Nat) (K : List Item) (s : St) : den prog ann 41 (.inBlock id :: K) s = den prog ann 41 K s := den_inBlock hf id K s
theorem exit_eq (id : Nat) (K : List Item) (s : St) : den prog ann 41 (.code (.exit id) :: K) s = exitV prog ann 41 (exitTo id K) s := den_exitV hf id K s
theorem call_eq (v0 v1 : AV) (m : Mem) (h : closedL [v0, v1] = true) : denC prog ann 41 [v0, v1] m = (den prog ann 41 [.code b] ⟨[(0, v0), (1, v1)], 98, Mem.empty⟩).bind fun r => some (r.1, m) := (denC_pure hf (b := b) (by kernel_rfl) (by kernel_rfl) (by kernel_rfl) h m).trans (by kernel_rfl)
theorem pure_eq : (ann 41).pure = true := by kernel_rfl
attribute [simp] b_eq r0_eq r1_eq r2_eq r3_eq k0_eq l0_eq r4_eq i0_eq i0t_eq i0e_eq k1_eq r6_eq i1_eq i1t_eq i1e_eq r7_eq r8_eq k2_eq l2_eq r9_eq i2_eq i2t_eq i2e_eq k3_eq r11_eq r10_eq r12_eq r5_eq r13_eq r14_eq i3_eq i3t_eq r15_eq i3e_eq r16_eq k4_eq l4_eq r17_eq i4_eq i4t_eq i4e_eq k5_eq r18_eq k6_eq l6_eq r19_eq i5_eq i5t_eq i5e_eq k7_eq r21_eq i6_eq i6t_eq r22_eq i6e_eq r20_eq r23_eq r24_eq ret_eq nil_eq inBlock_eq exit_eq pure_eq
end r09_Definitely

namespace r09_has
/-- pommel/pommelref09.has -/
noncomputable def b : Code := (Try.f78.body).getD .skip
theorem hf : prog.funcs[78]? = some Try.f78 := by kernel_rfl
noncomputable def r0 : Code := findReg b 0
noncomputable def r1 : Code := findReg b 1
noncomputable def k0 : Code := findBlk b 0
noncomputable def l0 : Code := loopOf k0
noncomputable def L0 (x0 x1 x5 : AV) (m : Mem) (K : List Item) : Option Res := den prog ann 78 (.code l0 :: .inLoop l0 :: .inBlock 0 :: K) ⟨[(0, x0), (1, x1), (5, x5)], 18, m⟩
noncomputable def r2 : Code := findReg b 2
noncomputable def i0 : Code := findCond b 0
noncomputable def i0t : Code := thenOf i0
noncomputable def i0e : Code := elseOf i0
noncomputable def k1 : Code := findBlk b 1
noncomputable def r4 : Code := findReg b 4
noncomputable def i1 : Code := findCond b 1
noncomputable def i1t : Code := thenOf i1
noncomputable def i1e : Code := elseOf i1
noncomputable def r5 : Code := findReg b 5
noncomputable def r3 : Code := findReg b 3
noncomputable def r6 : Code := findReg b 6
theorem b_eq (K : List Item) (s : St) : den prog ann 78 (.code b :: K) s = den prog ann 78 (.code r0 :: .code r1 :: .code k0 :: .code r6 :: .code .ret :: K) s := den_flat hf (l := [r0, r1, k0, r6, .ret]) (by kernel_rfl) K s
theorem r0_eq (K : List Item) (s : St) : den prog ann 78 (.code r0 :: K) s = mreg prog ann 78 none [] none [] [
    ⟨some 4, none, .v fun s => some (.bool false)⟩] K s := (den_reg hf _ K s).trans (by kernel_rfl)
theorem r1_eq (K : List Item) (s : St) : den prog ann 78 (.code r1 :: K) s = mreg prog ann 78 none [] none [] [
    ⟨some 5, none, .v fun s => some (.int .i64 0)⟩] K s := (den_reg hf _ K s).trans (by kernel_rfl)
theorem k0_eq (K : List Item) (t : List (Nat × AV)) (m : Mem) : den prog ann 78 (.code k0 :: K) ⟨t, 18, m⟩ = L0 (get t 0) (get t 1) (get t 5) m K := den_loop_enter hf (b := l0) (id := 2) (l := [0, 1, 5]) (by kernel_rfl) (by kernel_rfl) (by kernel_rfl) K _
theorem l0_eq (K : List Item) (t : List (Nat × AV)) (m : Mem) : den prog ann 78 (.inLoop l0 :: .inBlock 0 :: K) ⟨t, 18, m⟩ = L0 (get t 0) (get t 1) (get t 5) m K := den_loop_again hf (id := 2) (l := [0, 1, 5]) (by kernel_rfl) (by kernel_rfl) (.inBlock 0 :: K) _
theorem L0_eq (x0 x1 x5 : AV) (m : Mem) (K : List Item) : L0 x0 x1 x5 m K = den prog ann 78 (.code r2 :: .code i0 :: .code k1 :: .code r3 :: .inLoop l0 :: .inBlock 0 :: K) ⟨[(0, x0), (1, x1), (5, x5)], 18, m⟩ := den_flat hf (l := [r2, i0, k1, r3]) (by kernel_rfl) _ _
theorem r2_eq (K : List Item) (s : St) : den prog ann 78 (.code r2 :: K) s = mreg prog ann 78 (some [0, 1, 5]) [] none [] [
    ⟨some 6, none, .v fun s => some (s.get 5)⟩,
    ⟨some 7, none, .v fun s => some (s.get 0)⟩,
    ⟨some 8, none, .v fun s => lenSl (s.get 7)⟩,
    ⟨some 9, none, .v fun s => binA prog .lss 3 (s.get 6) (s.get 8)⟩] K s := (den_reg hf _ K s).trans (by kernel_rfl)
theorem i0_eq (K : List Item) (s : St) : den prog ann 78 (.code i0 :: K) s = ifV prog ann 78 9 i0t i0e K s (s.get 9) := den_if hf (by kernel_rfl) K s
theorem i0t_eq (K : List Item) (s : St) : den prog ann 78 (.code i0t :: K) s = den prog ann 78 (K) s := den_flat hf (l := []) (by kernel_rfl) K s
theorem i0e_eq (K : List Item) (s : St) : den prog ann 78 (.code i0e :: K) s = den prog ann 78 (.code (.exit 0) :: K) s := den_flat hf (l := [(.exit 0)]) (by kernel_rfl) K s
theorem k1_eq (K : List Item) (s : St) : den prog ann 78 (.code k1 :: K) s = den prog ann 78 (.code r4 :: .code i1 :: .inBlock 1 :: K) s := den_blk hf (b := blkOf k1) (l := [r4, i1]) (by kernel_rfl) (by kernel_rfl) K s
theorem r4_eq (K : List Item) (s : St) : den prog ann 78 (.code r4 :: K) s = mreg prog ann 78 none [] none [] [
    ⟨some 12, none, .v fun s => some (s.get 0)⟩,
    ⟨some 13, none, .v fun s => some (s.get 5)⟩,
    ⟨some 14, none, .v fun s => idxSl 1 (s.get 12) (s.get 13)⟩,
    ⟨some 15, none, .v fun s => loadF false 1 (s.get 14)⟩,
    ⟨some 16, none, .v fun s => some (s.get 1)⟩,
    ⟨some 17, none, .c 0 (fun s => (.fn 21 [] [])) fun s => [(s.get 15), (s.get 16)]⟩] K s := (den_reg hf _ K s).trans (by kernel_rfl)
theorem i1_eq (K : List Item) (s : St) : den prog ann 78 (.code i1 :: K) s = ifV prog ann 78 17 i1t i1e K s (s.get 17) := den_if hf (by kernel_rfl) K s
theorem i1t_eq (K : List Item) (s : St) : den prog ann 78 (.code i1t :: K) s = den prog ann 78 (.code r5 :: .code .ret :: K) s := den_flat hf (l := [r5, .ret]) (by kernel_rfl) K s
theorem r5_eq (K : List Item) (s : St) : den prog ann 78 (.code r5 :: K) s = mreg prog ann 78 none [] none [] [
    ⟨some 4, none, .v fun s => some (.bool true)⟩] K s := (den_reg hf _ K s).trans (by kernel_rfl)
theorem i1e_eq (K : List Item) (s : St) : den prog ann 78 (.code i1e :: K) s = den prog ann 78 (K) s := den_flat hf (l := []) (by kernel_rfl) K s
theorem r3_eq (K : List Item) (s : St) : den prog ann 78 (.code r3 :: K) s = mreg prog ann 78 (some [0, 1, 5]) [] none [] [
    ⟨some 10, none, .v fun s => some (s.get 5)⟩,
    ⟨some 11, none, .v fun s => binA prog .add 3 (s.get 10) (.int .i64 1)⟩,
    ⟨some 5, none, .v fun s => some (s.get 11)⟩] K s := (den_reg hf _ K s).trans (by kernel_rfl)
theorem r6_eq (K : List Item) (s : St) : den prog ann 78 (.code r6 :: K) s = mreg prog ann 78 (some []) [] none [] [
    ⟨some 4, none, .v fun s => some (.bool false)⟩] K s := (den_reg hf _ K s).trans (by kernel_rfl)
theorem ret_eq (K : List Item) (s : St) : den prog ann 78 (.code .ret :: K) s = finM true [fun s => some (s.get 4)] s := (den_ret hf K s).trans (by kernel_rfl)
theorem nil_eq (s : St) : den prog ann 78 [] s = finM true [fun s => some (s.get 4)] s := (den_nil hf s).trans (by kernel_rfl)
theorem inBlock_eq (id : Nat) (K : List Item) (s : St) : den prog ann 78 (.inBlock id :: K) s = den prog ann 78 K s := den_inBlock hf id K s
theorem exit_eq (id : Nat) (K : List Item) (s : St) : den prog ann 78 (.code (.exit id) :: K) s = exitV prog ann 78 (exitTo id K) s := den_exitV hf id K s
theorem call_eq (v0 v1 : AV) (m : Mem) (h : closedL [v0, v1] = true) : denC prog ann 78 [v0, v1] m = (den prog ann 78 [.code b] ⟨[(0, v0), (1, v1)], 18, Mem.empty⟩).bind fun r => some (r.1, m) := (denC_pure hf (b := b) (by kernel_rfl) (by kernel_rfl) (by kernel_rfl) h m).trans (by kernel_rfl)
theorem pure_eq : (ann 78).pure = true := by kernel_rfl
attribute [simp] b_eq r0_eq r1_eq k0_eq l0_eq r2_eq i0_eq i0t_eq i0e_eq k1_eq r4_eq i1_eq i1t_eq r5_eq i1e_eq r3_eq r6_eq ret_eq nil_eq inBlock_eq exit_eq pure_eq
end r09_has

namespace r09_name
/-- pommel/pommelref09.name -/
noncomputable def b : Code := (Try.f79.body).getD .skip
theorem hf : prog.funcs[79]? = some Try.f79 := by kernel_rfl
noncomputable def r0 : Code := findReg b 0
noncomputable def r1 : Code := findReg b 1
noncomputable def r2 : Code := findReg b 2
noncomputable def k0 : Code := findBlk b 0
noncomputable def l0 : Code := loopOf k0
noncomputable def L0 (x0 x1 x5 x6 : AV) (m : Mem) (K : List Item) : Option Res := den prog ann 79 (.code l0 :: .inLoop l0 :: .inBlock 0 :: K) ⟨[(0, x0), (1, x1), (5, x5), (6, x6)], 31, m⟩
noncomputable def r3 : Code := findReg b 3
noncomputable def i0 : Code := findCond b 0
noncomputable def i0t : Code := thenOf i0
noncomputable def i0e : Code := elseOf i0
noncomputable def k1 : Code := findBlk b 1
noncomputable def r5 : Code := findReg b 5
noncomputable def r6 : Code := findReg b 6
noncomputable def i1 : Code := findCond b 1
noncomputable def i1t : Code := thenOf i1
noncomputable def i1e : Code := elseOf i1
noncomputable def r7 : Code := findReg b 7
noncomputable def r8 : Code := findReg b 8
noncomputable def r4 : Code := findReg b 4
noncomputable def r9 : Code := findReg b 9
theorem b_eq (K : List Item) (s : St) : den prog ann 79 (.code b :: K) s = den prog ann 79 (.code r0 :: .code r1 :: .code r2 :: .code k0 :: .code r9 :: .code .ret :: K) s := den_flat hf (l := [r0, r1, r2, k0, r9, .ret]) (by kernel_rfl) K s
theorem r0_eq (K : List Item) (s : St) : den prog ann 79 (.code r0 :: K) s = mreg prog ann 79 none [] none [] [
    ⟨some 4, none, .v fun s => some (.str [])⟩] K s := (den_reg hf _ K s).trans (by kernel_rfl)
theorem r1_eq (K : List Item) (s : St) : den prog ann 79 (.code r1 :: K) s = mreg prog ann 79 none [] none [] [
    ⟨some 8, none, .w false none fun s => bslM s.m 0 (bslA 1 0 [.int .u8 0] [])⟩,
    ⟨some 5, none, .v fun s => some (s.get 8)⟩] K s := (den_reg hf _ K s).trans (by kernel_rfl)
theorem r2_eq (K : List Item) (s : St) : den prog ann 79 (.code r2 :: K) s = mreg prog ann 79 none [] none [] [
    ⟨some 6, none, .v fun s => some (.int .i64 0)⟩] K s := (den_reg hf _ K s).trans (by kernel_rfl)
theorem k0_eq (K : List Item) (t : List (Nat × AV)) (m : Mem) : den prog ann 79 (.code k0 :: K) ⟨t, 31, m⟩ = L0 (get t 0) (get t 1) (get t 5) (get t 6) m K := den_loop_enter hf (b := l0) (id := 3) (l := [0, 1, 5, 6]) (by kernel_rfl) (by kernel_rfl) (by kernel_rfl) K _
theorem l0_eq (K : List Item) (t : List (Nat × AV)) (m : Mem) : den prog ann 79 (.inLoop l0 :: .inBlock 0 :: K) ⟨t, 31, m⟩ = L0 (get t 0) (get t 1) (get t 5) (get t 6) m K := den_loop_again hf (id := 3) (l := [0, 1, 5, 6]) (by kernel_rfl) (by kernel_rfl) (.inBlock 0 :: K) _
theorem L0_eq (x0 x1 x5 x6 : AV) (m : Mem) (K : List Item) : L0 x0 x1 x5 x6 m K = den prog ann 79 (.code r3 :: .code i0 :: .code k1 :: .code r4 :: .inLoop l0 :: .inBlock 0 :: K) ⟨[(0, x0), (1, x1), (5, x5), (6, x6)], 31, m⟩ := den_flat hf (l := [r3, i0, k1, r4]) (by kernel_rfl) _ _
theorem r3_eq (K : List Item) (s : St) : den prog ann 79 (.code r3 :: K) s = mreg prog ann 79 (some [0, 1, 5, 6]) [] none [] [
    ⟨some 9, none, .v fun s => some (s.get 6)⟩,
    ⟨some 10, none, .v fun s => some (s.get 0)⟩,
    ⟨some 11, none, .v fun s => lenSl (s.get 10)⟩,
    ⟨some 12, none, .v fun s => binA prog .lss 3 (s.get 9) (s.get 11)⟩] K s := (den_reg hf _ K s).trans (by kernel_rfl)
theorem i0_eq (K : List Item) (s : St) : den prog ann 79 (.code i0 :: K) s = ifV prog ann 79 12 i0t i0e K s (s.get 12) := den_if hf (by kernel_rfl) K s
theorem i0t_eq (K : List Item) (s : St) : den prog ann 79 (.code i0t :: K) s = den prog ann 79 (K) s := den_flat hf (l := []) (by kernel_rfl) K s
theorem i0e_eq (K : List Item) (s : St) : den prog ann 79 (.code i0e :: K) s = den prog ann 79 (.code (.exit 0) :: K) s := den_flat hf (l := [(.exit 0)]) (by kernel_rfl) K s
theorem k1_eq (K : List Item) (s : St) : den prog ann 79 (.code k1 :: K) s = den prog ann 79 (.code r5 :: .code r6 :: .code i1 :: .code r8 :: .inBlock 1 :: K) s := den_blk hf (b := blkOf k1) (l := [r5, r6, i1, r8]) (by kernel_rfl) (by kernel_rfl) K s
theorem r5_eq (K : List Item) (s : St) : den prog ann 79 (.code r5 :: K) s = mreg prog ann 79 none [] none [] [
    ⟨some 15, none, .v fun s => some (s.get 0)⟩,
    ⟨some 16, none, .v fun s => some (s.get 6)⟩,
    ⟨some 17, none, .v fun s => idxSl 1 (s.get 15) (s.get 16)⟩,
    ⟨some 18, none, .v fun s => loadF false 1 (s.get 17)⟩,
    ⟨some 7, none, .v fun s => some (s.get 18)⟩] K s := (den_reg hf _ K s).trans (by kernel_rfl)
theorem r6_eq (K : List Item) (s : St) : den prog ann 79 (.code r6 :: K) s = mreg prog ann 79 none [] none [] [
    ⟨some 19, none, .v fun s => some (s.get 6)⟩,
    ⟨some 20, none, .v fun s => some (s.get 1)⟩,
    ⟨some 21, none, .v fun s => binA prog .eql 3 (s.get 19) (s.get 20)⟩] K s := (den_reg hf _ K s).trans (by kernel_rfl)
theorem i1_eq (K : List Item) (s : St) : den prog ann 79 (.code i1 :: K) s = ifV prog ann 79 21 i1t i1e K s (s.get 21) := den_if hf (by kernel_rfl) K s
theorem i1t_eq (K : List Item) (s : St) : den prog ann 79 (.code i1t :: K) s = den prog ann 79 (.code r7 :: K) s := den_flat hf (l := [r7]) (by kernel_rfl) K s
theorem r7_eq (K : List Item) (s : St) : den prog ann 79 (.code r7 :: K) s = mreg prog ann 79 none [] none [] [
    ⟨some 22, none, .v fun s => some (s.get 7)⟩,
    ⟨some 23, none, .v fun s => binA prog .sub 3 (s.get 22) (.int .i64 1)⟩,
    ⟨some 7, none, .v fun s => some (s.get 23)⟩] K s := (den_reg hf _ K s).trans (by kernel_rfl)
theorem i1e_eq (K : List Item) (s : St) : den prog ann 79 (.code i1e :: K) s = den prog ann 79 (K) s := den_flat hf (l := []) (by kernel_rfl) K s
theorem r8_eq (K : List Item) (s : St) : den prog ann 79 (.code r8 :: K) s = mreg prog ann 79 (some [0, 1, 5, 6, 7]) [] none [] [
    ⟨some 24, none, .v fun s => some (s.get 5)⟩,
    ⟨some 25, none, .v fun s => some (s.get 7)⟩,
    ⟨some 26, none, .v fun s => convInt .u8 (s.get 25)⟩,
    ⟨some 27, none, .v fun s => bslF 1 (bslA 1 1 [.int .u8 0] [(0, (s.get 26))])⟩,
    ⟨some 28, none, .w false none fun s => appendA 1 1 s.m (s.get 24) (s.get 27)⟩,
    ⟨some 5, none, .v fun s => some (s.get 28)⟩] K s := (den_reg hf _ K s).trans (by kernel_rfl)
theorem r4_eq (K : List Item) (s : St) : den prog ann 79 (.code r4 :: K) s = mreg prog ann 79 (some [0, 1, 5, 6]) [] none [] [
    ⟨some 13, none, .v fun s => some (s.get 6)⟩,
    ⟨some 14, none, .v fun s => binA prog .add 3 (s.get 13) (.int .i64 1)⟩,
    ⟨some 6, none, .v fun s => some (s.get 14)⟩] K s := (den_reg hf _ K s).trans (by kernel_rfl)
theorem r9_eq (K : List Item) (s : St) : den prog ann 79 (.code r9 :: K) s = mreg prog ann 79 (some [5]) [] none [] [
    ⟨some 29, none, .v fun s => some (s.get 5)⟩,
    ⟨some 30, none, .v fun s => convStr s.m (s.get 29)⟩,
    ⟨some 4, none, .v fun s => some (s.get 30)⟩] K s := (den_reg hf _ K s).trans (by kernel_rfl)
theorem ret_eq (K : List Item) (s : St) : den prog ann 79 (.code .ret :: K) s = finM true [fun s => some (s.get 4)] s := (den_ret hf K s).trans (by kernel_rfl)
theorem nil_eq (s : St) : den prog ann 79 [] s = finM true [fun s => some (s.get 4)] s := (den_nil hf s).trans (by kernel_rfl)
theorem inBlock_eq (id : Nat) (K : List Item) (s : St) : den prog ann 79 (.inBlock id :: K) s = den prog ann 79 K s := den_inBlock hf id K s
theorem exit_eq (id : Nat) (K : List Item) (s : St) : den prog ann 79 (.code (.exit id) :: K) s = exitV prog ann 79 (exitTo id K) s := den_exitV hf id K s
theorem call_eq (v0 v1 : AV) (m : Mem) (h : closedL [v0, v1] = true) : denC prog ann 79 [v0, v1] m = (den prog ann 79 [.code b] ⟨[(0, v0), (1, v1)], 31, Mem.empty⟩).bind fun r => some (r.1, m) := (denC_pure hf (b := b) (by kernel_rfl) (by kernel_rfl) (by kernel_rfl) h m).trans (by kernel_rfl)
theorem pure_eq : (ann 79).pure = true := by kernel_rfl
attribute [simp] b_eq r0_eq r1_eq r2_eq k0_eq l0_eq r3_eq i0_eq i0t_eq i0e_eq k1_eq r5_eq r6_eq i1_eq i1t_eq r7_eq i1e_eq r8_eq r4_eq r9_eq ret_eq nil_eq inBlock_eq exit_eq pure_eq
end r09_name

namespace r09_more
/-- pommel/pommelref09.more -/
noncomputable def b : Code := (Try.f80.body).getD .skip
theorem hf : prog.funcs[80]? = some Try.f80 := by kernel_rfl
noncomputable def r0 : Code := findReg b 0
noncomputable def r1 : Code := findReg b 1
noncomputable def r2 : Code := findReg b 2
noncomputable def r3 : Code := findReg b 3
theorem b_eq (K : List Item) (s : St) : den prog ann 80 (.code b :: K) s = den prog ann 80 (.code r0 :: .code r1 :: .code r2 :: .code r3 :: .code .ret :: K) s := den_flat hf (l := [r0, r1, r2, r3, .ret]) (by kernel_rfl) K s
theorem r0_eq (K : List Item) (s : St) : den prog ann 80 (.code r0 :: K) s = mreg prog ann 80 none [] none [] [
    ⟨some 4, none, .v fun s => some (.nils)⟩] K s := (den_reg hf _ K s).trans (by kernel_rfl)
theorem r1_eq (K : List Item) (s : St) : den prog ann 80 (.code r1 :: K) s = mreg prog ann 80 none [] none [] [
    ⟨some 6, none, .w false none fun s => bslM s.m 0 (bslA 1 0 [.int .i64 0] [])⟩,
    ⟨some 7, none, .v fun s => some (s.get 0)⟩,
    ⟨some 8, none, .w false none fun s => appendA 1 8 s.m (s.get 6) (s.get 7)⟩,
    ⟨some 5, none, .v fun s => some (s.get 8)⟩] K s := (den_reg hf _ K s).trans (by kernel_rfl)
theorem r2_eq (K : List Item) (s : St) : den prog ann 80 (.code r2 :: K) s = mreg prog ann 80 none [] none [] [
    ⟨some 9, none, .v fun s => some (s.get 5)⟩,
    ⟨some 10, none, .v fun s => some (s.get 1)⟩,
    ⟨some 11, none, .v fun s => idxSl 1 (s.get 9) (s.get 10)⟩,
    ⟨some 12, none, .v fun s => loadA false 1 s.m (s.get 11)⟩,
    ⟨some 13, none, .v fun s => binA prog .add 3 (s.get 12) (.int .i64 1)⟩,
    ⟨some 14, none, .v fun s => idxSl 1 (s.get 9) (s.get 10)⟩,
    ⟨none, none, .w false none fun s => stA false 1 s.m (s.get 14) (s.get 13)⟩] K s := (den_reg hf _ K s).trans (by kernel_rfl)
theorem r3_eq (K : List Item) (s : St) : den prog ann 80 (.code r3 :: K) s = mreg prog ann 80 none [] none [] [
    ⟨some 15, none, .v fun s => some (s.get 5)⟩,
    ⟨some 4, none, .v fun s => some (s.get 15)⟩] K s := (den_reg hf _ K s).trans (by kernel_rfl)
theorem ret_eq (K : List Item) (s : St) : den prog ann 80 (.code .ret :: K) s = finM true [fun s => some (s.get 4)] s := (den_ret hf K s).trans (by kernel_rfl)
theorem nil_eq (s : St) : den prog ann 80 [] s = finM true [fun s => some (s.get 4)] s := (den_nil hf s).trans (by kernel_rfl)
theorem inBlock_eq (id : Nat) (K : List Item) (s : St) : den prog ann 80 (.inBlock id :: K) s = den prog ann 80 K s := den_inBlock hf id K s
theorem exit_eq (id : Nat) (K : List Item) (s : St) : den prog ann 80 (.code (.exit id) :: K) s = exitV prog ann 80 (exitTo id K) s := den_exitV hf id K s
theorem call_eq (v0 v1 : AV) (m : Mem) (h : closedL [v0, v1] = true) : denC prog ann 80 [v0, v1] m = (den prog ann 80 [.code b] ⟨[(0, v0), (1, v1)], 16, Mem.empty⟩).bind fun r => some (r.1, m) := (denC_pure hf (b := b) (by kernel_rfl) (by kernel_rfl) (by kernel_rfl) h m).trans (by kernel_rfl)
theorem pure_eq : (ann 80).pure = true := by kernel_rfl
attribute [simp] b_eq r0_eq r1_eq r2_eq r3_eq ret_eq nil_eq inBlock_eq exit_eq pure_eq
end r09_more

namespace r01_SameLists
/-- pommel/pommelref01.SameLists -/
noncomputable def b : Code := (Try.f42.body).getD .skip
theorem hf : prog.funcs[42]? = some Try.f42 := by kernel_rfl
noncomputable def r0 : Code := findReg b 0
noncomputable def r1 : Code := findReg b 1
noncomputable def i0 : Code := findCond b 0
noncomputable def i0t : Code := thenOf i0
noncomputable def i0e : Code := elseOf i0
noncomputable def r2 : Code := findReg b 2
noncomputable def r3 : Code := findReg b 3
noncomputable def k0 : Code := findBlk b 0
noncomputable def l0 : Code := loopOf k0
noncomputable def L0 (x0 x1 x5 : AV) (m : Mem) (K : List Item) : Option Res := den prog ann 42 (.code l0 :: .inLoop l0 :: .inBlock 0 :: K) ⟨[(0, x0), (1, x1), (5, x5)], 27, m⟩
noncomputable def r4 : Code := findReg b 4
noncomputable def i1 : Code := findCond b 1
noncomputable def i1t : Code := thenOf i1
noncomputable def i1e : Code := elseOf i1
noncomputable def k1 : Code := findBlk b 1
noncomputable def r6 : Code := findReg b 6
noncomputable def i2 : Code := findCond b 2
noncomputable def i2t : Code := thenOf i2
noncomputable def i2e : Code := elseOf i2
noncomputable def r7 : Code := findReg b 7
noncomputable def r5 : Code := findReg b 5
noncomputable def r8 : Code := findReg b 8
theorem b_eq (K : List Item) (s : St) : den prog ann 42 (.code b :: K) s = den prog ann 42 (.code r0 :: .code r1 :: .code i0 :: .code r3 :: .code k0 :: .code r8 :: .code .ret :: K) s := den_flat hf (l := [r0, r1, i0, r3, k0, r8, .ret]) (by kernel_rfl) K s
theorem r0_eq (K : List Item) (s : St) : den prog ann 42 (.code r0 :: K) s = mreg prog ann 42 none [] none [] [
    ⟨some 4, none, .v fun s => some (.bool false)⟩] K s := (den_reg hf _ K s).trans (by kernel_rfl)
theorem r1_eq (K : List Item) (s : St) : den prog ann 42 (.code r1 :: K) s = mreg prog ann 42 none [] none [] [
    ⟨some 6, none, .v fun s => some (s.get 0)⟩,
    ⟨some 7, none, .v fun s => lenSl (s.get 6)⟩,
    ⟨some 8, none, .v fun s => some (s.get 1)⟩,
    ⟨some 9, none, .v fun s => lenSl (s.get 8)⟩,
    ⟨some 10, none, .v fun s => binA prog .neq 3 (s.get 7) (s.get 9)⟩] K s := (den_reg hf _ K s).trans (by kernel_rfl)
theorem i0_eq (K : List Item) (s : St) : den prog ann 42 (.code i0 :: K) s = ifV prog ann 42 10 i0t i0e K s (s.get 10) := den_if hf (by kernel_rfl) K s
theorem i0t_eq (K : List Item) (s : St) : den prog ann 42 (.code i0t :: K) s = den prog ann 42 (.code r2 :: .code .ret :: K) s := den_flat hf (l := [r2, .ret]) (by kernel_rfl) K s
theorem r2_eq (K : List Item) (s : St) : den prog ann 42 (.code r2 :: K) s = mreg prog ann 42 none [] none [] [
    ⟨some 4, none, .v fun s => some (.bool false)⟩] K s := (den_reg hf _ K s).trans (by kernel_rfl)
theorem i0e_eq (K : List Item) (s : St) : den prog ann 42 (.code i0e :: K) s = den prog ann 42 (K) s := den_flat hf (l := []) (by kernel_rfl) K s
theorem r3_eq (K : List Item) (s : St) : den prog ann 42 (.code r3 :: K) s = mreg prog ann 42 none [] none [] [
    ⟨some 5, none, .v fun s => some (.int .i64 0)⟩] K s := (den_reg hf _ K s).trans (by kernel_rfl)
theorem k0_eq (K : List Item) (t : List (Nat × AV)) (m : Mem) : den prog ann 42 (.code k0 :: K) ⟨t, 27, m⟩ = L0 (get t 0) (get t 1) (get t 5) m K := den_loop_enter hf (b := l0) (id := 4) (l := [0, 1, 5]) (by kernel_rfl) (by kernel_rfl) (by kernel_rfl) K _
theorem l0_eq (K : List Item) (t : List (Nat × AV)) (m : Mem) : den prog ann 42 (.inLoop l0 :: .inBlock 0 :: K) ⟨t, 27, m⟩ = L0 (get t 0) (get t 1) (get t 5) m K := den_loop_again hf (id := 4) (l := [0, 1, 5]) (by kernel_rfl) (by kernel_rfl) (.inBlock 0 :: K) _
theorem L0_eq (x0 x1 x5 : AV) (m : Mem) (K : List Item) : L0 x0 x1 x5 m K = den prog ann 42 (.code r4 :: .code i1 :: .code k1 :: .code r5 :: .inLoop l0 :: .inBlock 0 :: K) ⟨[(0, x0), (1, x1), (5, x5)], 27, m⟩ := den_flat hf (l := [r4, i1, k1, r5]) (by kernel_rfl) _ _
theorem r4_eq (K : List Item) (s : St) : den prog ann 42 (.code r4 :: K) s = mreg prog ann 42 (some [0, 1, 5]) [] none [] [
    ⟨some 11, none, .v fun s => some (s.get 5)⟩,
    ⟨some 12, none, .v fun s => some (s.get 0)⟩,
    ⟨some 13, none, .v fun s => lenSl (s.get 12)⟩,
    ⟨some 14, none, .v fun s => binA prog .lss 3 (s.get 11) (s.get 13)⟩] K s := (den_reg hf _ K s).trans (by kernel_rfl)
theorem i1_eq (K : List Item) (s : St) : den prog ann 42 (.code i1 :: K) s = ifV prog ann 42 14 i1t i1e K s (s.get 14) := den_if hf (by kernel_rfl) K s
theorem i1t_eq (K : List Item) (s : St) : den prog ann 42 (.code i1t :: K) s = den prog ann 42 (K) s := den_flat hf (l := []) (by kernel_rfl) K s
theorem i1e_eq (K : List Item) (s : St) : den prog ann 42 (.code i1e :: K) s = den prog ann 42 (.code (.exit 0) :: K) s := den_flat hf (l := [(.exit 0)]) (by kernel_rfl) K s
theorem k1_eq (K : List Item) (s : St) : den prog ann 42 (.code k1 :: K) s = den prog ann 42 (.code r6 :: .code i2 :: .inBlock 1 :: K) s := den_blk hf (b := blkOf k1) (l := [r6, i2]) (by kernel_rfl) (by kernel_rfl) K s
theorem r6_draw : drawOk (fun g => (ann g).pure) (modeOf (ann 42) (idOf r6)) (frzOf (ann 42) (idOf r6)) (opsOf r6) = true := drawOk_of (an := [0, 0, 3, 7, 0, 0, 48, 112, 255, 511]) (by kernel_rfl) (by kernel_rfl)
theorem r6_eq (K : List Item) (s : St) : den prog ann 42 (.code r6 :: K) s = mreg prog ann 42 none [] (some 10) [] [
    ⟨some 17, none, .v fun s => some (s.get 0)⟩,
    ⟨some 18, none, .v fun s => some (s.get 5)⟩,
    ⟨some 19, none, .v fun s => idxSl 1 (s.get 17) (s.get 18)⟩,
    ⟨some 20, none, .v fun s => loadF false 1 (s.get 19)⟩,
    ⟨some 21, none, .v fun s => some (s.get 1)⟩,
    ⟨some 22, none, .v fun s => some (s.get 5)⟩,
    ⟨some 23, none, .v fun s => idxSl 1 (s.get 21) (s.get 22)⟩,
    ⟨some 24, none, .v fun s => loadF false 1 (s.get 23)⟩,
    ⟨some 25, none, .c 0 (fun s => (.fn 21 [] [])) fun s => [(s.get 20), (s.get 24)]⟩,
    ⟨some 26, none, .v fun s => unA .not (s.get 25)⟩] K s := (den_regD hf r6_draw K s).trans (by kernel_rfl)
theorem i2_eq (K : List Item) (s : St) : den prog ann 42 (.code i2 :: K) s = ifV prog ann 42 26 i2t i2e K s (s.get 26) := den_if hf (by kernel_rfl) K s
theorem i2t_eq (K : List Item) (s : St) : den prog ann 42 (.code i2t :: K) s = den prog ann 42 (.code r7 :: .code .ret :: K) s := den_flat hf (l := [r7, .ret]) (by kernel_rfl) K s
theorem r7_eq (K : List Item) (s : St) : den prog ann 42 (.code r7 :: K) s = mreg prog ann 42 none [] none [] [
    ⟨some 4, none, .v fun s => some (.bool false)⟩] K s := (den_reg hf _ K s).trans (by kernel_rfl)
theorem i2e_eq (K : List Item) (s : St) : den prog ann 42 (.code i2e :: K) s = den prog ann 42 (K) s := den_flat hf (l := []) (by kernel_rfl) K s
theorem r5_eq (K : List Item) (s : St) : den prog ann 42 (.code r5 :: K) s = mreg prog ann 42 (some [0, 1, 5]) [] none [] [
    ⟨some 15, none, .v fun s => some (s.get 5)⟩,
    ⟨some 16, none, .v fun s => binA prog .add 3 (s.get 15) (.int .i64 1)⟩,
    ⟨some 5, none, .v fun s => some (s.get 16)⟩] K s := (den_reg hf _ K s).trans (by kernel_rfl)
theorem r8_eq (K : List Item) (s : St) : den prog ann 42 (.code r8 :: K) s = mreg prog ann 42 (some []) [] none [] [
    ⟨some 4, none, .v fun s => some (.bool true)⟩] K s := (den_reg hf _ K s).trans (by kernel_rfl)
theorem ret_eq (K : List Item) (s : St) : den prog ann 42 (.code .ret :: K) s = finM true [fun s => some (s.get 4)] s := (den_ret hf K s).trans (by kernel_rfl)
theorem nil_eq (s : St) : den prog ann 42 [] s = finM true [fun s => some (s.get 4)] s := (den_nil hf s).trans (by kernel_rfl)
theorem inBlock_eq (id : Nat) (K : List Item) (s : St) : den prog ann 42 (.inBlock id :: K) s = den prog ann 42 K s := den_inBlock hf id K s
theorem exit_eq (id : Nat) (K : List Item) (s : St) : den prog ann 42 (.code (.exit id) :: K) s = exitV prog ann 42 (exitTo id K) s := den_exitV hf id K s
theorem call_eq (v0 v1 : AV) (m : Mem) (h : closedL [v0, v1] = true) : denC prog ann 42 [v0, v1] m = (den prog ann 42 [.code b] ⟨[(0, v0), (1, v1)], 27, Mem.empty⟩).bind fun r => some (r.1, m) := (denC_pure hf (b := b) (by kernel_rfl) (by kernel_rfl) (by kernel_rfl) h m).trans (by kernel_rfl)
theorem pure_eq : (ann 42).pure = true := by kernel_rfl
attribute [simp] b_eq r0_eq r1_eq i0_eq i0t_eq r2_eq i0e_eq r3_eq k0_eq l0_eq r4_eq i1_eq i1t_eq i1e_eq k1_eq r6_eq i2_eq i2t_eq r7_eq i2e_eq r5_eq r8_eq ret_eq nil_eq inBlock_eq exit_eq pure_eq
end r01_SameLists

namespace l09_sets
/-- pommel/pommellaw09.sets -/
noncomputable def b : Code := (Try.f37.body).getD .skip
theorem hf : prog.funcs[37]? = some Try.f37 := by kernel_rfl
noncomputable def r0 : Code := findReg b 0
noncomputable def r1 : Code := findReg b 1
noncomputable def r2 : Code := findReg b 2
noncomputable def k0 : Code := findBlk b 0
noncomputable def l0 : Code := loopOf k0
noncomputable def L0 (x0 x3 x4 : AV) (m : Mem) (K : List Item) : Option Res := den prog ann 37 (.code l0 :: .inLoop l0 :: .inBlock 0 :: K) ⟨[(0, x0), (3, x3), (4, x4)], 25, m⟩
noncomputable def r3 : Code := findReg b 3
noncomputable def i0 : Code := findCond b 0
noncomputable def i0t : Code := thenOf i0
noncomputable def i0e : Code := elseOf i0
noncomputable def k1 : Code := findBlk b 1
noncomputable def r5 : Code := findReg b 5
noncomputable def r4 : Code := findReg b 4
noncomputable def r6 : Code := findReg b 6
theorem b_eq (K : List Item) (s : St) : den prog ann 37 (.code b :: K) s = den prog ann 37 (.code r0 :: .code r1 :: .code r2 :: .code k0 :: .code r6 :: .code .ret :: K) s := den_flat hf (l := [r0, r1, r2, k0, r6, .ret]) (by kernel_rfl) K s
theorem r0_eq (K : List Item) (s : St) : den prog ann 37 (.code r0 :: K) s = mreg prog ann 37 none [] none [] [
    ⟨some 2, none, .v fun s => some (.nils)⟩] K s := (den_reg hf _ K s).trans (by kernel_rfl)
theorem r1_eq (K : List Item) (s : St) : den prog ann 37 (.code r1 :: K) s = mreg prog ann 37 none [] none [] [
    ⟨some 5, none, .w false none fun s => bslM s.m 0 (bslA 1 0 [.nils] [])⟩,
    ⟨some 3, none, .v fun s => some (s.get 5)⟩] K s := (den_reg hf _ K s).trans (by kernel_rfl)
theorem r2_eq (K : List Item) (s : St) : den prog ann 37 (.code r2 :: K) s = mreg prog ann 37 none [] none [] [
    ⟨some 4, none, .v fun s => some (.int .i64 0)⟩] K s := (den_reg hf _ K s).trans (by kernel_rfl)
theorem k0_eq (K : List Item) (t : List (Nat × AV)) (m : Mem) : den prog ann 37 (.code k0 :: K) ⟨t, 25, m⟩ = L0 (get t 0) (get t 3) (get t 4) m K := den_loop_enter hf (b := l0) (id := 3) (l := [0, 3, 4]) (by kernel_rfl) (by kernel_rfl) (by kernel_rfl) K _
theorem l0_eq (K : List Item) (t : List (Nat × AV)) (m : Mem) : den prog ann 37 (.inLoop l0 :: .inBlock 0 :: K) ⟨t, 25, m⟩ = L0 (get t 0) (get t 3) (get t 4) m K := den_loop_again hf (id := 3) (l := [0, 3, 4]) (by kernel_rfl) (by kernel_rfl) (.inBlock 0 :: K) _
theorem L0_eq (x0 x3 x4 : AV) (m : Mem) (K : List Item) : L0 x0 x3 x4 m K = den prog ann 37 (.code r3 :: .code i0 :: .code k1 :: .code r4 :: .inLoop l0 :: .inBlock 0 :: K) ⟨[(0, x0), (3, x3), (4, x4)], 25, m⟩ := den_flat hf (l := [r3, i0, k1, r4]) (by kernel_rfl) _ _
theorem r3_eq (K : List Item) (s : St) : den prog ann 37 (.code r3 :: K) s = mreg prog ann 37 (some [0, 3, 4]) [] none [] [
    ⟨some 6, none, .v fun s => some (s.get 4)⟩,
    ⟨some 7, none, .v fun s => some (s.get 0)⟩,
    ⟨some 8, none, .v fun s => lenSl (s.get 7)⟩,
    ⟨some 9, none, .v fun s => binA prog .lss 3 (s.get 6) (s.get 8)⟩,
    ⟨some 10, none, .v fun s => some (s.get 9)⟩,
    ⟨some 11, some (10, true), .v fun s => some (s.get 4)⟩,
    ⟨some 12, some (10, true), .v fun s => binA prog .leq 3 (s.get 11) (.int .i64 2500)⟩,
    ⟨some 13, none, .v fun s => pickA (s.get 10) (s.get 12) (.bool false)⟩] K s := (den_reg hf _ K s).trans (by kernel_rfl)
theorem i0_eq (K : List Item) (s : St) : den prog ann 37 (.code i0 :: K) s = ifV prog ann 37 13 i0t i0e K s (s.get 13) := den_if hf (by kernel_rfl) K s
theorem i0t_eq (K : List Item) (s : St) : den prog ann 37 (.code i0t :: K) s = den prog ann 37 (K) s := den_flat hf (l := []) (by kernel_rfl) K s
theorem i0e_eq (K : List Item) (s : St) : den prog ann 37 (.code i0e :: K) s = den prog ann 37 (.code (.exit 0) :: K) s := den_flat hf (l := [(.exit 0)]) (by kernel_rfl) K s
theorem k1_eq (K : List Item) (s : St) : den prog ann 37 (.code k1 :: K) s = den prog ann 37 (.code r5 :: .inBlock 1 :: K) s := den_blk hf (b := blkOf k1) (l := [r5]) (by kernel_rfl) (by kernel_rfl) K s
theorem r5_eq (K : List Item) (s : St) : den prog ann 37 (.code r5 :: K) s = mreg prog ann 37 none [] none [] [
    ⟨some 16, none, .v fun s => some (s.get 3)⟩,
    ⟨some 17, none, .v fun s => some (s.get 0)⟩,
    ⟨some 18, none, .v fun s => some (s.get 4)⟩,
    ⟨some 19, none, .v fun s => idxSl 1 (s.get 17) (s.get 18)⟩,
    ⟨some 20, none, .v fun s => loadF false 1 (s.get 19)⟩,
    ⟨some 21, none, .c 0 (fun s => (.fn 44 [] [])) fun s => [(s.get 20)]⟩,
    ⟨some 22, none, .v fun s => bslF 1 (bslA 1 1 [.nils] [(0, (s.get 21))])⟩,
    ⟨some 23, none, .w false none fun s => appendA 1 24 s.m (s.get 16) (s.get 22)⟩,
    ⟨some 3, none, .v fun s => some (s.get 23)⟩] K s := (den_reg hf _ K s).trans (by kernel_rfl)
theorem r4_eq (K : List Item) (s : St) : den prog ann 37 (.code r4 :: K) s = mreg prog ann 37 (some [0, 3, 4]) [] none [] [
    ⟨some 14, none, .v fun s => some (s.get 4)⟩,
    ⟨some 15, none, .v fun s => binA prog .add 3 (s.get 14) (.int .i64 1)⟩,
    ⟨some 4, none, .v fun s => some (s.get 15)⟩] K s := (den_reg hf _ K s).trans (by kernel_rfl)
theorem r6_eq (K : List Item) (s : St) : den prog ann 37 (.code r6 :: K) s = mreg prog ann 37 (some [3]) [] none [] [
    ⟨some 24, none, .v fun s => some (s.get 3)⟩,
    ⟨some 2, none, .v fun s => some (s.get 24)⟩] K s := (den_reg hf _ K s).trans (by kernel_rfl)
theorem ret_eq (K : List Item) (s : St) : den prog ann 37 (.code .ret :: K) s = finM true [fun s => some (s.get 2)] s := (den_ret hf K s).trans (by kernel_rfl)
theorem nil_eq (s : St) : den prog ann 37 [] s = finM true [fun s => some (s.get 2)] s := (den_nil hf s).trans (by kernel_rfl)
theorem inBlock_eq (id : Nat) (K : List Item) (s : St) : den prog ann 37 (.inBlock id :: K) s = den prog ann 37 K s := den_inBlock hf id K s
theorem exit_eq (id : Nat) (K : List Item) (s : St) : den prog ann 37 (.code (.exit id) :: K) s = exitV prog ann 37 (exitTo id K) s := den_exitV hf id K s
theorem call_eq (v0 : AV) (m : Mem) (h : closedL [v0] = true) : denC prog ann 37 [v0] m = (den prog ann 37 [.code b] ⟨[(0, v0)], 25, Mem.empty⟩).bind fun r => some (r.1, m) := (denC_pure hf (b := b) (by kernel_rfl) (by kernel_rfl) (by kernel_rfl) h m).trans (by kernel_rfl)
theorem pure_eq : (ann 37).pure = true := by kernel_rfl
attribute [simp] b_eq r0_eq r1_eq r2_eq k0_eq l0_eq r3_eq i0_eq i0t_eq i0e_eq k1_eq r5_eq r4_eq r6_eq ret_eq nil_eq inBlock_eq exit_eq pure_eq
end l09_sets
end Go.Proofs.Ytdkmepjedjclkaa

/-
  Definitely (1): the cuts with one deed more. Conditions: none.
-/
namespace Go.Proofs.Ytdkmepjedjclkaa
open Go.AM
open Go.Proofs.Try (prog)
set_option linter.all false
set_option maxRecDepth 100000
set_option maxHeartbeats 4000000

/-- A cut with one deed more of a hand. -/
def bump (c : List Int) (h : Nat) : List Int := c.set h (nth c h + 1)
theorem bump_len (c : List Int) (h : Nat) : (bump c h).length = c.length := by simp [bump]
theorem nth_bump {c : List Int} {h : Nat} (hh : h < c.length) (g : Nat) : nth (bump c h) g = if g = h then nth c h + 1 else nth c g := by
  rw [bump, nth_set]
  by_cases e : h = g
  · subst e; simp [hh]
  · have e' : ¬ g = h := fun x => e x.symm
    simp [e, e']
/-- The consistent cuts with one deed more of one of the first k hands, the last hand's first. -/
def stepOk (D4 : List Int) (K : List (List (List Int))) (n : Nat) (c : List Int) (h : Nat) : Bool := decide (nth c h + 1 ≤ nth D4 h) && decide (forthL K n (bump c h) = bump c h)
def nextR (D4 : List Int) (K : List (List (List Int))) (n : Nat) (c : List Int) : Nat → List (List Int)
  | 0 => []
  | k + 1 => (if stepOk D4 K n c k = true then [bump c k] else []) ++ nextR D4 K n c k
def nextV (acc : List (List Int)) : AV := if acc = [] then .nils else .fsl false acc.length (flatC ints acc)
theorem nextV_is (acc : List (List Int)) : IsSl ints (nextV acc) acc := by
  by_cases e : acc = []
  · exact .inl ⟨by rw [nextV, if_pos e], e⟩
  · exact .inr ⟨false, by rw [nextV, if_neg e]⟩

theorem next_loop {V : List AV} {n : Nat} {D4 : List Int} {K : List (List (List Int))} (hV : V.length = 4) (s : IsStory (.fptr (.int .i64 n :: (ints D4 ++ V))) n D4 K) {c : List Int} (hc : IsCut n D4 c) : ∀ (k : Nat) (acc : List (List Int)) (oid : Nat) (m : Mem), k ≤ n → Four acc → acc.length + k ≤ n → OutX m oid acc →
    watch_story_next.L0 (.fptr (.int .i64 n :: (ints D4 ++ V))) (.fptr (ints c)) (outX oid acc) (.int .i64 ((k : Int) - 1)) m [.code watch_story_next.r9, .code .ret] = some (nextV (acc ++ nextR D4 K n c k), Mem.empty) := by
  have hn4 := s.n4
  have hD4 := s.D4
  have hc4 := hc.len
  intro k
  induction k with
  | zero =>
    intro acc oid m h1 h2 h3 h4
    by_cases e : acc = []
    · subst e
      rw [watch_story_next.L0_eq]
      simp [outX, nextR, nextV]
      done
    · obtain ⟨a, b⟩ := h4 e
      have hl := flatC_len (f := ints) (k := 4) (l := acc) (fun x hx => by simp [h2 x hx])
      have htk : (flatC ints acc).take (acc.length * 4) = flatC ints acc := List.take_of_length_le (by omega)
      have hdp : ∀ d, mapO (deep m.h (d + 1)) (flatC ints acc) = some (flatC ints acc) := fun d => flatC_deep _ _ (fun a => by simp) _
      rw [watch_story_next.L0_eq]
      simp [outX, e, nextR, nextV, a, hl, htk, hdp]
      done
  | succ k ih =>
    intro acc oid m h1 h2 h3 h4
    have hk4 : k < 4 := by omega
    have e0 : ((k + 1 : Nat) : Int) - 1 = (k : Int) := by omega
    have hw : IntKind.wrap .i64 ((k : Int) - 1) = (k : Int) - 1 := wrap_id (by omega) (by omega)
    have hlo := hc.lo k
    have hhi := hc.hi k
    have hd6 := s.D6 k
    have hw2 : IntKind.wrap .i64 (nth c k + 1) = nth c k + 1 := wrap_id (by omega) (by omega)
    have hld : (ints D4 ++ V)[k]? = some (.int .i64 (nth D4 k)) := by rw [List.getElem?_append_left (by simp; omega), ints_nth (by omega)]
    have htc : (ints c).take 4 = ints c := List.take_of_length_le (by simp [hc4])
    have hd0 : (ints c).drop 4 = [] := List.drop_of_length_le (by simp [hc4])
    simp at htc hd0
    have hbl : (bump c k).length = 4 := by rw [bump_len, hc4]
    have hset : c.set k (nth c k + 1) = bump c k := rfl
    have htb : (ints (bump c k)).take 4 = ints (bump c k) := List.take_of_length_le (by simp [hbl])
    simp at htb
    have hgb : nth (bump c k) k = nth c k + 1 := by rw [nth_bump (by omega), if_pos rfl]
    have hgk : (ints (bump c k))[k]? = some (.int .i64 (nth c k + 1)) := by rw [ints_nth (by omega), hgb]
    have hga : (ints c)[k]? = some (.int .i64 (nth c k)) := ints_nth (by omega)
    have hnew : ∀ nx, m.nx ≤ nx → OutX ⟨upd m.h m.nx (some (.cells (ints (bump c k)))), nx + 1⟩ oid acc := fun nx hnx hn => by
      obtain ⟨a, b⟩ := h4 hn
      exact ⟨by simp [show (oid == m.nx) = false from beq_eq_false_iff_ne.2 (by omega), a], by show oid < nx + 1; omega⟩
    rw [e0, watch_story_next.L0_eq, nextR]
    by_cases q : nth c k + 1 ≤ nth D4 k
    · have hcut : IsCut n D4 (bump c k) := ⟨hbl, fun g => by rw [nth_bump (by omega)]; split; omega; exact hc.lo g, fun g => by
        rw [nth_bump (by omega)]; split
        · rename_i e; rw [e]; exact q
        · exact hc.hi g⟩
      have hcon := consistent_spec s hcut
      by_cases q2 : forthL K n (bump c k) = bump c k
      · rw [if_pos (by simp [stepOk, q, q2])]
        rw [decide_eq_true q2] at hcon
        have hacl := flatC_len (f := ints) (k := 4) (l := acc) (fun a ha => by simp [h2 a ha])
        have h2' : Four (acc ++ [bump c k]) := fun x hx => by
          rcases List.mem_append.1 hx with h | h
          · exact h2 x h
          · simp at h; rw [h]; exact hbl
        by_cases hn : acc = []
        · subst hn
          have hst := ih [bump c k] (m.nx + 1 + 15) ⟨upd (upd m.h m.nx (some (.cells (ints (bump c k))))) (m.nx + 1 + 15) (some (.cells (ints (bump c k)))), m.nx + 1 + 15 + 1⟩ (by omega) h2' (by simp; omega) (fun _ => ⟨by simp [flatC_one], by show m.nx + 1 + 15 < m.nx + 1 + 15 + 1; omega⟩)
          have e3 : outX (m.nx + 1 + 15) [bump c k] = .sl (m.nx + 1 + 15) 4 0 1 4 := by simp [outX]
          rw [e3] at hst
          rw [List.nil_append, ← hst]
          simp [hc4, htc, hd0, hk4, hga, hw2, hset, hgk, hgb, htb, hbl, hld, q, hcon, hw, outX]
          done
        · obtain ⟨a, b⟩ := h4 hn
          have e1 : (oid == m.nx) = false := beq_eq_false_iff_ne.2 (by omega)
          have e2 : (m.nx == oid) = false := beq_eq_false_iff_ne.2 (by omega)
          have hst := ih (acc ++ [bump c k]) oid ⟨upd (upd m.h m.nx (some (.cells (ints (bump c k))))) oid (some (.cells (flatC ints acc ++ ints (bump c k)))), m.nx + 1 + 15⟩ (by omega) h2' (by simp; omega) (fun _ => ⟨by simp [flatC_append, flatC_one], by show oid < m.nx + 1 + 15; omega⟩)
          have e3 : outX oid (acc ++ [bump c k]) = .sl oid 4 0 (acc.length + 1) (acc.length * 4 + 4) := by simp [outX, Nat.add_mul]
          have e4 : outX oid acc = .sl oid 4 0 acc.length (acc.length * 4) := by simp [outX, hn]
          rw [e3] at hst
          rw [← List.append_assoc, ← hst, e4]
          simp [hc4, htc, hd0, hk4, hga, hw2, hset, hgk, hgb, htb, hbl, hld, q, hcon, hw, e1, e2, a, hacl, show acc.length + 1 ≤ 4611686018427387904 by omega, show acc.length ≤ 4611686018427387903 by omega, show (acc.length + 1) * 32 ≤ 70368744177664 by omega]
          done
      · rw [if_neg (by simp [stepOk, q2])]
        rw [decide_eq_false q2] at hcon
        have hst := ih acc oid ⟨upd m.h m.nx (some (.cells (ints (bump c k)))), m.nx + 1 + 15⟩ (by omega) h2 (by omega) (hnew (m.nx + 15) (by omega))
        rw [List.nil_append, ← hst]
        simp [hc4, htc, hd0, hk4, hga, hw2, hset, hgk, hgb, htb, hbl, hld, q, hcon, hw]
        done
    · rw [if_neg (by simp [stepOk, q])]
      have hst := ih acc oid ⟨upd m.h m.nx (some (.cells (ints (bump c k)))), m.nx + 1 + 15⟩ (by omega) h2 (by omega) (hnew (m.nx + 15) (by omega))
      rw [List.nil_append, ← hst]
      simp [hc4, htc, hd0, hk4, hga, hw2, hset, hgk, hgb, htb, hbl, hld, q, hw]
      done

theorem next_spec {sv : AV} {n : Nat} {D4 : List Int} {K : List (List (List Int))} (s : IsStory sv n D4 K) {c : List Int} (hc : IsCut n D4 c) (m : Mem) : denC prog ann 73 [sv, .agg (ints c)] m = some (nextV (nextR D4 K n c n), m) := by
  have hn4 := s.n4
  obtain ⟨V, e, hV, hS⟩ := s.V
  subst e
  have hw : IntKind.wrap .i64 ((n : Int) - 1) = (n : Int) - 1 := wrap_id (by omega) (by omega)
  have lp := next_loop hV s hc n [] 0 Mem.empty (Nat.le_refl _) (fun c hc => by cases hc) (by simp) (fun h => absurd rfl h)
  rw [show outX 0 [] = .nils by simp [outX], List.nil_append] at lp
  rw [watch_story_next.call_eq _ _ _ (by simp)]
  simp [hw, lp]
end Go.Proofs.Ytdkmepjedjclkaa

/-
  Definitely (2): courses that avoid a set, as a plain law. Conditions: none.
-/
namespace Go.Proofs.Ytdkmepjedjclkaa
open Go.AM
open Go.Proofs.Try (prog)
set_option linter.all false
set_option maxRecDepth 100000

/-- Can the end be reached from a cut, without a cut of the set? -/
inductive Can (D : List Int) (N : List Note) (S : List (List Int)) : List Int → Prop where
  | last (h : D ∈ cutsL D N) (h2 : D ∉ S) : Can D N S D
  | step {c : List Int} {h : Nat} (hc : c ∈ cutsL D N) (h2 : c ∉ S) (hh : h < D.length) (r : Can D N S (bump c h)) : Can D N S c
/-- The way on, each time by the last hand that can. -/
inductive Path (D : List Int) (N : List Note) (S : List (List Int)) : List Int → List (List Int) → Prop where
  | last : Path D N S D [D]
  | step {c : List Int} {h : Nat} {l : List (List Int)} (hc : c ≠ D) (hh : h < D.length) (r : Can D N S (bump c h)) (ng : ∀ g, h < g → g < D.length → ¬ Can D N S (bump c g)) (p : Path D N S (bump c h) l) : Path D N S c (c :: l)

section
variable {D : List Int} {N : List Note} {S : List (List Int)}
theorem Can.mem {c : List Int} (h : Can D N S c) : c ∈ cutsL D N := by cases h <;> assumption
theorem Can.out {c : List Int} (h : Can D N S c) : c ∉ S := by cases h <;> assumption
theorem Can.on {c : List Int} (h : Can D N S c) (hc : c ≠ D) : ∃ h, h < D.length ∧ Can D N S (bump c h) := by
  cases h with
  | last _ _ => exact absurd rfl hc
  | @step _ h _ _ hh r => exact ⟨h, hh, r⟩
theorem Path.uniq {c : List Int} {l l' : List (List Int)} (p : Path D N S c l) (q : Path D N S c l') : l = l' := by
  induction p generalizing l' with
  | last => cases q with
    | last => rfl
    | step hc => exact absurd rfl hc
  | @step c h l hc hh r ng p ih =>
    cases q with
    | last => exact absurd rfl hc
    | @step _ h' l' _ hh' r' ng' p' =>
      rcases Nat.lt_trichotomy h h' with e | e | e
      · exact absurd r' (ng h' e hh')
      · subst e; rw [ih p']
      · exact absurd r (ng' h e hh)
theorem Path.ne {c : List Int} {l : List (List Int)} (p : Path D N S c l) : l ≠ [] := by cases p <;> simp
theorem Path.row {c : List Int} {l : List (List Int)} (p : Path D N S c l) (hc : c.length = D.length) : ∀ x ∈ l, x.length = D.length := by
  induction p with
  | last => intro x hx; simp at hx; rw [hx]
  | step _ _ _ _ _ ih =>
    intro x hx
    rcases List.mem_cons.1 hx with rfl | hx
    · exact hc
    · exact ih (by rw [bump_len]; exact hc) x hx
theorem sum_bump {c : List Int} {h : Nat} (hh : h < c.length) : (bump c h).sum = c.sum + 1 := by
  have := sum_set c h (nth c h + 1) hh
  rw [bump]; omega
theorem Can.sum {c : List Int} (h : Can D N S c) (L : Lims D N) : c.sum ≤ D.sum := by
  induction h with
  | last => exact Int.le_refl _
  | @step c h hc _ hh _ ih =>
    have := sum_bump (c := c) (h := h) (by rw [((mem_cuts L).1 hc).1.len]; exact hh)
    omega

/-! ### Of four numbers, and of as many as there are hands -/
theorem bump_take {c : List Int} {n h : Nat} (hh : h < n) (hl : n ≤ c.length) : (bump c h).take n = bump (c.take n) h := by
  refine ext_nth (by simp [bump]) fun g => ?_
  rw [nth_bump (by simp; omega), nth_take hh]
  rcases Nat.lt_or_ge g n with hg | hg
  · rw [nth_take hg, nth_bump (by omega), nth_take hg]
  · have : ¬ g = h := by omega
    rw [take_out hg, if_neg this, take_out hg]
theorem cut_of_is {c : List Int} (h4 : D.length ≤ 4) (hc : IsCut D.length (pad D) c) : CutL D (c.take D.length) := by
  have hl := hc.len
  refine ⟨by simp; omega, fun h => ?_, fun h => ?_⟩
  · rcases Nat.lt_or_ge h D.length with hh | hh
    · rw [nth_take hh]; exact hc.lo h
    · rw [take_out hh]; exact Int.le_refl _
  · rcases Nat.lt_or_ge h D.length with hh | hh
    · rw [nth_take hh]; have := hc.hi h; rw [nth_pad] at this; exact this
    · rw [take_out hh, nth_out hh]; exact Int.le_refl _
theorem bump_is {c : List Int} (hc : IsCut D.length (pad D) c) {h : Nat} (hh : h < 4) (q : nth c h + 1 ≤ nth (pad D) h) : IsCut D.length (pad D) (bump c h) := by
  have hl := hc.len
  refine ⟨by rw [bump_len, hl], fun g => ?_, fun g => ?_⟩
  · rw [nth_bump (by omega)]; split
    · have := hc.lo h; omega
    · exact hc.lo g
  · rw [nth_bump (by omega)]; split
    · rename_i e; rw [e]; exact q
    · exact hc.hi g
theorem stepOk_iff {K : List (List (List Int))} (k : Clocks D N K) {c : List Int} (hc : IsCut D.length (pad D) c) {h : Nat} (hh : h < D.length) : stepOk (pad D) K D.length c h = true ↔ bump (c.take D.length) h ∈ cutsL D N := by
  have h4 := k.P.L.n4
  have hl := hc.len
  simp only [stepOk, Bool.and_eq_true, decide_eq_true_eq]
  constructor
  · rintro ⟨q1, q2⟩
    have hb := bump_is hc (by omega) q1
    rw [← bump_take hh (by omega)]
    exact (mem_cuts k.P.L).2 ⟨cut_of_is h4 hb, (in_iff k hb).1 q2⟩
  · intro hm
    obtain ⟨a, b⟩ := (mem_cuts k.P.L).1 hm
    have q1 : nth c h + 1 ≤ nth (pad D) h := by
      have := a.hi h
      rw [nth_bump (by simp; omega), if_pos rfl, nth_take hh] at this
      rw [nth_pad]; exact this
    have hb := bump_is hc (by omega) q1
    refine ⟨q1, (in_iff k hb).2 ?_⟩
    rw [bump_take hh (by omega)]; exact b
end
end Go.Proofs.Ytdkmepjedjclkaa
