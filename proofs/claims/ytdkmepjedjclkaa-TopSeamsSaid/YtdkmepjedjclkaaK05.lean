/-
  BODIES OF FUNCTIONS OF THE PROGRAM AS SMALL OPERATIONS (written by gen.py; checked by the kernel against the program). Conditions: none.
-/
import Derived.Test.YtdkmepjedjclkaaKAmH
import Derived.Test.YtdkmepjedjclkaaK04
set_option linter.all false
namespace Go.Proofs.Ytdkmepjedjclkaa
open Go.AM
open Go.Proofs.Try (prog)
set_option maxRecDepth 100000
set_option linter.all false
namespace r03_Free
noncomputable section
variable (K : List Item) (s : St)
def b : Code := (Try.f50.body).getD .skip
theorem hf : prog.funcs[50]? = some Try.f50 := by kernel_rfl
def r0 := findReg b 0
def r1 := findReg b 1
def k0 := findBlk b 0
def l0 := loopOf k0
def L0 (x0 x1 x2 x7 : AV) (m : Mem) (K : List Item) : Option Res := den prog ann 50 (.code l0 :: .inLoop l0 :: .inBlock 0 :: K) ⟨[(0, x0), (1, x1), (2, x2), (7, x7)], 48, m⟩
def r2 := findReg b 2
def i0 := findCond b 0
def i0t := thenOf i0
def i0e := elseOf i0
def k1 := findBlk b 1
def r4 := findReg b 4
def r5 := findReg b 5
def i1 := findCond b 1
def i1t := thenOf i1
def i1e := elseOf i1
def r6 := findReg b 6
def r3 := findReg b 3
def r7 := findReg b 7
theorem b_eq : den prog ann 50 (.code b :: K) s = den prog ann 50 (.code r0 :: .code r1 :: .code k0 :: .code r7 :: .code .ret :: K) s := den_flat hf (l := [r0, r1, k0, r7, .ret]) (by kernel_rfl) K s
theorem r0_eq : den prog ann 50 (.code r0 :: K) s = mreg prog ann 50 none [] none [] [qF 6 fun s => some (.bool false)] K s := (den_reg hf _ K s).trans (by kernel_rfl)
theorem r1_eq : den prog ann 50 (.code r1 :: K) s = mreg prog ann 50 none [] none [] [qF 7 fun s => some (.int .i64 0)] K s := (den_reg hf _ K s).trans (by kernel_rfl)
theorem k0_eq (K : List Item) (t : List (Nat × AV)) (m : Mem) : den prog ann 50 (.code k0 :: K) ⟨t, 48, m⟩ = L0 (get t 0) (get t 1) (get t 2) (get t 7) m K := den_loop_enter hf (b := l0) (id := 2) (l := [0, 1, 2, 7]) (by kernel_rfl) (by kernel_rfl) (by kernel_rfl) K _
theorem l0_eq (K : List Item) (t : List (Nat × AV)) (m : Mem) : den prog ann 50 (.inLoop l0 :: .inBlock 0 :: K) ⟨t, 48, m⟩ = L0 (get t 0) (get t 1) (get t 2) (get t 7) m K := den_loop_again hf (id := 2) (l := [0, 1, 2, 7]) (by kernel_rfl) (by kernel_rfl) (.inBlock 0 :: K) _
theorem L0_eq (x0 x1 x2 x7 : AV) (m : Mem) (K : List Item) : L0 x0 x1 x2 x7 m K = den prog ann 50 (.code r2 :: .code i0 :: .code k1 :: .code r3 :: .inLoop l0 :: .inBlock 0 :: K) ⟨[(0, x0), (1, x1), (2, x2), (7, x7)], 48, m⟩ := den_flat hf (l := [r2, i0, k1, r3]) (by kernel_rfl) _ _
theorem r2_eq : den prog ann 50 (.code r2 :: K) s = mreg prog ann 50 (some [0, 1, 2, 7]) [] none [] [qC 10 7,qC 11 0,qA 12 lenSl 11,qB 13 (binA prog .lss 3) 10 12] K s := (den_reg hf _ K s).trans (by kernel_rfl)
theorem i0_eq : den prog ann 50 (.code i0 :: K) s = ifV prog ann 50 13 i0t i0e K s (s.get 13) := den_if hf (by kernel_rfl) K s
theorem i0t_eq : den prog ann 50 (.code i0t :: K) s = den prog ann 50 (K) s := den_flat hf (l := []) (by kernel_rfl) K s
theorem i0e_eq : den prog ann 50 (.code i0e :: K) s = den prog ann 50 (.code (.exit 0) :: K) s := den_flat hf (l := [(.exit 0)]) (by kernel_rfl) K s
theorem k1_eq : den prog ann 50 (.code k1 :: K) s = den prog ann 50 (.code r4 :: .code r5 :: .code i1 :: .inBlock 1 :: K) s := den_blk hf (b := blkOf k1) (l := [r4, r5, i1]) (by kernel_rfl) (by kernel_rfl) K s
theorem r4_draw : drawOk (fun g => (ann g).pure) (modeOf (ann 50) (idOf r4)) (frzOf (ann 50) (idOf r4)) (opsOf r4) = true := drawOk_of (an := [0, 0, 3, 7, 15, 31, 63, 0, 0, 384, 896, 1920, 3968, 8064, 127, 32767]) (by kernel_rfl) (by kernel_rfl)
theorem r4_eq : den prog ann 50 (.code r4 :: K) s = mreg prog ann 50 none [] (some 16) [] [qC 16 0,qC 17 7,qB 18 (idxSl 2) 16 17,qA 19 (fieldA 0) 18,qA 20 (loadF false 1) 19,qA 21 (binA prog .add 3 (.int .i64 97)) 20,qA 22 (convInt .u8) 21,qC 23 0,qC 24 7,qB 25 (idxSl 2) 23 24,qA 26 (fieldA 1) 25,qA 27 (loadF false 1) 26,qA 28 (binA prog .add 3 (.int .i64 97)) 27,qA 29 (convInt .u8) 28,qC 8 22,qC 9 29] K s := (den_regD hf r4_draw K s).trans (by kernel_rfl)
theorem r5_eq : den prog ann 50 (.code r5 :: K) s = mreg prog ann 50 none [] none [] [qC 30 8,qC 31 1,qB 32 (binA prog .eql 5) 30 31,qC 33 32,⟨some 34, some (33, true), .v fun s => some (s.get 9)⟩,⟨some 35, some (33, true), .v fun s => some (s.get 2)⟩,⟨some 36, some (33, true), .v fun s => binA prog .eql 5 (s.get 34) (s.get 35)⟩,qF 37 fun s => pickA (s.get 33) (s.get 36) (.bool false),qC 38 37,⟨some 39, some (38, false), .v fun s => some (s.get 8)⟩,⟨some 40, some (38, false), .v fun s => some (s.get 2)⟩,⟨some 41, some (38, false), .v fun s => binA prog .eql 5 (s.get 39) (s.get 40)⟩,⟨some 42, some (38, false), .v fun s => some (s.get 41)⟩,⟨some 43, some (42, true), .v fun s => some (s.get 9)⟩,⟨some 44, some (42, true), .v fun s => some (s.get 1)⟩,⟨some 45, some (42, true), .v fun s => binA prog .eql 5 (s.get 43) (s.get 44)⟩,⟨some 46, some (38, false), .v fun s => pickA (s.get 42) (s.get 45) (.bool false)⟩,qF 47 fun s => pickA (s.get 38) (.bool true) (s.get 46)] K s := (den_reg hf _ K s).trans (by kernel_rfl)
theorem i1_eq : den prog ann 50 (.code i1 :: K) s = ifV prog ann 50 47 i1t i1e K s (s.get 47) := den_if hf (by kernel_rfl) K s
theorem i1t_eq : den prog ann 50 (.code i1t :: K) s = den prog ann 50 (.code r6 :: .code .ret :: K) s := den_flat hf (l := [r6, .ret]) (by kernel_rfl) K s
theorem r6_eq : den prog ann 50 (.code r6 :: K) s = mreg prog ann 50 none [] none [] [qF 6 fun s => some (.bool true)] K s := (den_reg hf _ K s).trans (by kernel_rfl)
theorem i1e_eq : den prog ann 50 (.code i1e :: K) s = den prog ann 50 (K) s := den_flat hf (l := []) (by kernel_rfl) K s
theorem r3_eq : den prog ann 50 (.code r3 :: K) s = mreg prog ann 50 (some [0, 1, 2, 7]) [] none [] [qC 14 7,qF 15 fun s => binA prog .add 3 (s.get 14) (.int .i64 1),qC 7 15] K s := (den_reg hf _ K s).trans (by kernel_rfl)
theorem r7_eq : den prog ann 50 (.code r7 :: K) s = mreg prog ann 50 (some []) [] none [] [qF 6 fun s => some (.bool false)] K s := (den_reg hf _ K s).trans (by kernel_rfl)
theorem ret_eq : den prog ann 50 (.code .ret :: K) s = finM true [fun s => some (s.get 6)] s := (den_ret hf K s).trans (by kernel_rfl)
theorem nil_eq (s : St) : den prog ann 50 [] s = finM true [fun s => some (s.get 6)] s := (den_nil hf s).trans (by kernel_rfl)
theorem inBlock_eq (id : Nat) (K : List Item) (s : St) : den prog ann 50 (.inBlock id :: K) s = den prog ann 50 K s := den_inBlock hf id K s
theorem exit_eq (id : Nat) (K : List Item) (s : St) : den prog ann 50 (.code (.exit id) :: K) s = exitV prog ann 50 (exitTo id K) s := den_exitV hf id K s
theorem call_eq (v0 v1 v2 : AV) (m : Mem) (h : closedL [v0, v1, v2] = true) : denC prog ann 50 [v0, v1, v2] m = (den prog ann 50 [.code b] ⟨[(0, v0), (1, v1), (2, v2)], 48, Mem.empty⟩).bind fun r => some (r.1, m) := (denC_pure hf (b := b) (by kernel_rfl) (by kernel_rfl) (by kernel_rfl) h m).trans (by kernel_rfl)
theorem pure_eq : (ann 50).pure = true := by kernel_rfl
attribute [simp] b_eq r0_eq r1_eq k0_eq l0_eq r2_eq i0_eq i0t_eq i0e_eq k1_eq r4_eq r5_eq i1_eq i1t_eq r6_eq i1e_eq r3_eq r7_eq ret_eq nil_eq inBlock_eq exit_eq pure_eq
end
end r03_Free
namespace top_counts
noncomputable section
variable (K : List Item) (s : St)
def b : Code := (Try.f52.body).getD .skip
theorem hf : prog.funcs[52]? = some Try.f52 := by kernel_rfl
def r0 := findReg b 0
def r1 := findReg b 1
def r2 := findReg b 2
def k0 := findBlk b 0
def l0 := loopOf k0
def L0 (x0 x3 x4 : AV) (m : Mem) (K : List Item) : Option Res := den prog ann 52 (.code l0 :: .inLoop l0 :: .inBlock 0 :: K) ⟨[(0, x0), (3, x3), (4, x4)], 32, m⟩
def r3 := findReg b 3
def i0 := findCond b 0
def i0t := thenOf i0
def i0e := elseOf i0
def k1 := findBlk b 1
def r5 := findReg b 5
def i1 := findCond b 1
def i1t := thenOf i1
def i1e := elseOf i1
def r6 := findReg b 6
def r4 := findReg b 4
def r7 := findReg b 7
theorem b_eq : den prog ann 52 (.code b :: K) s = den prog ann 52 (.code r0 :: .code r1 :: .code r2 :: .code k0 :: .code r7 :: .code .ret :: K) s := den_flat hf (l := [r0, r1, r2, k0, r7, .ret]) (by kernel_rfl) K s
theorem r0_eq : den prog ann 52 (.code r0 :: K) s = mreg prog ann 52 none [] none [] [qF 2 fun s => some (.nils)] K s := (den_reg hf _ K s).trans (by kernel_rfl)
theorem r1_eq : den prog ann 52 (.code r1 :: K) s = mreg prog ann 52 none [] none [] [⟨some 5, none, .w false none fun s => makeA 1 8 (.int .i64 0) s.m (.int .i64 4) (.int .i64 4)⟩,qC 3 5] K s := (den_reg hf _ K s).trans (by kernel_rfl)
theorem r2_eq : den prog ann 52 (.code r2 :: K) s = mreg prog ann 52 none [] none [] [qF 4 fun s => some (.int .i64 0)] K s := (den_reg hf _ K s).trans (by kernel_rfl)
theorem k0_eq (K : List Item) (t : List (Nat × AV)) (m : Mem) : den prog ann 52 (.code k0 :: K) ⟨t, 32, m⟩ = L0 (get t 0) (get t 3) (get t 4) m K := den_loop_enter hf (b := l0) (id := 3) (l := [0, 3, 4]) (by kernel_rfl) (by kernel_rfl) (by kernel_rfl) K _
theorem l0_eq (K : List Item) (t : List (Nat × AV)) (m : Mem) : den prog ann 52 (.inLoop l0 :: .inBlock 0 :: K) ⟨t, 32, m⟩ = L0 (get t 0) (get t 3) (get t 4) m K := den_loop_again hf (id := 3) (l := [0, 3, 4]) (by kernel_rfl) (by kernel_rfl) (.inBlock 0 :: K) _
theorem L0_eq (x0 x3 x4 : AV) (m : Mem) (K : List Item) : L0 x0 x3 x4 m K = den prog ann 52 (.code r3 :: .code i0 :: .code k1 :: .code r4 :: .inLoop l0 :: .inBlock 0 :: K) ⟨[(0, x0), (3, x3), (4, x4)], 32, m⟩ := den_flat hf (l := [r3, i0, k1, r4]) (by kernel_rfl) _ _
theorem r3_eq : den prog ann 52 (.code r3 :: K) s = mreg prog ann 52 (some [0, 3, 4]) [] none [] [qC 6 4,qC 7 0,qA 8 lenStr 7,qB 9 (binA prog .lss 3) 6 8] K s := (den_reg hf _ K s).trans (by kernel_rfl)
theorem i0_eq : den prog ann 52 (.code i0 :: K) s = ifV prog ann 52 9 i0t i0e K s (s.get 9) := den_if hf (by kernel_rfl) K s
theorem i0t_eq : den prog ann 52 (.code i0t :: K) s = den prog ann 52 (K) s := den_flat hf (l := []) (by kernel_rfl) K s
theorem i0e_eq : den prog ann 52 (.code i0e :: K) s = den prog ann 52 (.code (.exit 0) :: K) s := den_flat hf (l := [(.exit 0)]) (by kernel_rfl) K s
theorem k1_eq : den prog ann 52 (.code k1 :: K) s = den prog ann 52 (.code r5 :: .code i1 :: .inBlock 1 :: K) s := den_blk hf (b := blkOf k1) (l := [r5, i1]) (by kernel_rfl) (by kernel_rfl) K s
theorem r5_eq : den prog ann 52 (.code r5 :: K) s = mreg prog ann 52 none [] none [] [qC 12 0,qC 13 4,qB 14 idxStr 12 13,qF 15 fun s => binA prog .geq 5 (s.get 14) (.int .u8 97),qC 16 15,⟨some 17, some (16, true), .v fun s => some (s.get 0)⟩,⟨some 18, some (16, true), .v fun s => some (s.get 4)⟩,⟨some 19, some (16, true), .v fun s => idxStr (s.get 17) (s.get 18)⟩,⟨some 20, some (16, true), .v fun s => binA prog .leq 5 (s.get 19) (.int .u8 100)⟩,qF 21 fun s => pickA (s.get 16) (s.get 20) (.bool false)] K s := (den_reg hf _ K s).trans (by kernel_rfl)
theorem i1_eq : den prog ann 52 (.code i1 :: K) s = ifV prog ann 52 21 i1t i1e K s (s.get 21) := den_if hf (by kernel_rfl) K s
theorem i1t_eq : den prog ann 52 (.code i1t :: K) s = den prog ann 52 (.code r6 :: K) s := den_flat hf (l := [r6]) (by kernel_rfl) K s
theorem r6_eq : den prog ann 52 (.code r6 :: K) s = mreg prog ann 52 none [] none [] [qC 22 3,qC 23 0,qC 24 4,qB 25 idxStr 23 24,qF 26 fun s => binA prog .sub 5 (s.get 25) (.int .u8 97),qB 27 (idxSl 1) 22 26,qF 28 fun s => loadA false 1 s.m (s.get 27),qF 29 fun s => binA prog .add 3 (s.get 28) (.int .i64 1),qB 30 (idxSl 1) 22 26,⟨none, none, .w false none fun s => stA false 1 s.m (s.get 30) (s.get 29)⟩] K s := (den_reg hf _ K s).trans (by kernel_rfl)
theorem i1e_eq : den prog ann 52 (.code i1e :: K) s = den prog ann 52 (K) s := den_flat hf (l := []) (by kernel_rfl) K s
theorem r4_eq : den prog ann 52 (.code r4 :: K) s = mreg prog ann 52 (some [0, 3, 4]) [] none [] [qC 10 4,qF 11 fun s => binA prog .add 3 (s.get 10) (.int .i64 1),qC 4 11] K s := (den_reg hf _ K s).trans (by kernel_rfl)
theorem r7_eq : den prog ann 52 (.code r7 :: K) s = mreg prog ann 52 (some [3]) [] none [] [qC 31 3,qC 2 31] K s := (den_reg hf _ K s).trans (by kernel_rfl)
theorem ret_eq : den prog ann 52 (.code .ret :: K) s = finM true [fun s => some (s.get 2)] s := (den_ret hf K s).trans (by kernel_rfl)
theorem nil_eq (s : St) : den prog ann 52 [] s = finM true [fun s => some (s.get 2)] s := (den_nil hf s).trans (by kernel_rfl)
theorem inBlock_eq (id : Nat) (K : List Item) (s : St) : den prog ann 52 (.inBlock id :: K) s = den prog ann 52 K s := den_inBlock hf id K s
theorem exit_eq (id : Nat) (K : List Item) (s : St) : den prog ann 52 (.code (.exit id) :: K) s = exitV prog ann 52 (exitTo id K) s := den_exitV hf id K s
theorem call_eq (v0 : AV) (m : Mem) (h : closedL [v0] = true) : denC prog ann 52 [v0] m = (den prog ann 52 [.code b] ⟨[(0, v0)], 32, Mem.empty⟩).bind fun r => some (r.1, m) := (denC_pure hf (b := b) (by kernel_rfl) (by kernel_rfl) (by kernel_rfl) h m).trans (by kernel_rfl)
theorem pure_eq : (ann 52).pure = true := by kernel_rfl
attribute [simp] b_eq r0_eq r1_eq r2_eq k0_eq l0_eq r3_eq i0_eq i0t_eq i0e_eq k1_eq r5_eq i1_eq i1t_eq r6_eq i1e_eq r4_eq r7_eq ret_eq nil_eq inBlock_eq exit_eq pure_eq
end
end top_counts
namespace stitch_threads_meets
noncomputable section
variable (K : List Item) (s : St)
def b : Code := (Try.f88.body).getD .skip
theorem hf : prog.funcs[88]? = some Try.f88 := by kernel_rfl
def r0 := findReg b 0
def r1 := findReg b 1
theorem b_eq : den prog ann 88 (.code b :: K) s = den prog ann 88 (.code r0 :: .code r1 :: .code .ret :: K) s := den_flat hf (l := [r0, r1, .ret]) (by kernel_rfl) K s
theorem r0_eq : den prog ann 88 (.code r0 :: K) s = mreg prog ann 88 none [] none [] [qF 6 fun s => some (.bool false)] K s := (den_reg hf _ K s).trans (by kernel_rfl)
theorem r1_eq : den prog ann 88 (.code r1 :: K) s = mreg prog ann 88 none [] none [] [qC 7 0,qC 8 1,qF 9 fun s => binA prog .sub 5 (s.get 8) (.int .u8 97),qC 10 2,qF 11 fun s => binA prog .sub 5 (s.get 10) (.int .u8 97),qA 12 nilA 7,qA 13 (fieldA 1) 12,qB 14 (idxArr 6 6) 13 9,qB 15 (idxArr 6 1) 14 11,qA 16 (loadF false 1) 15,qA 17 (unA .not) 16,qC 6 17] K s := (den_reg hf _ K s).trans (by kernel_rfl)
theorem ret_eq : den prog ann 88 (.code .ret :: K) s = finM true [fun s => some (s.get 6)] s := (den_ret hf K s).trans (by kernel_rfl)
theorem nil_eq (s : St) : den prog ann 88 [] s = finM true [fun s => some (s.get 6)] s := (den_nil hf s).trans (by kernel_rfl)
theorem inBlock_eq (id : Nat) (K : List Item) (s : St) : den prog ann 88 (.inBlock id :: K) s = den prog ann 88 K s := den_inBlock hf id K s
theorem exit_eq (id : Nat) (K : List Item) (s : St) : den prog ann 88 (.code (.exit id) :: K) s = exitV prog ann 88 (exitTo id K) s := den_exitV hf id K s
theorem call_eq (v0 v1 v2 : AV) (m : Mem) (h : closedL [v0, v1, v2] = true) : denC prog ann 88 [v0, v1, v2] m = (den prog ann 88 [.code b] ⟨[(0, v0), (1, v1), (2, v2)], 18, Mem.empty⟩).bind fun r => some (r.1, m) := (denC_pure hf (b := b) (by kernel_rfl) (by kernel_rfl) (by kernel_rfl) h m).trans (by kernel_rfl)
theorem pure_eq : (ann 88).pure = true := by kernel_rfl
attribute [simp] b_eq r0_eq r1_eq ret_eq nil_eq inBlock_eq exit_eq pure_eq
end
end stitch_threads_meets
namespace stitch_threads_front
noncomputable section
variable (K : List Item) (s : St)
def b : Code := (Try.f84.body).getD .skip
theorem hf : prog.funcs[84]? = some Try.f84 := by kernel_rfl
def r0 := findReg b 0
def r1 := findReg b 1
def k0 := findBlk b 0
def l0 := loopOf k0
def L0 (x0 x1 x2 x9 x10 : AV) (m : Mem) (K : List Item) : Option Res := den prog ann 84 (.code l0 :: .inLoop l0 :: .inBlock 0 :: K) ⟨[(0, x0), (1, x1), (2, x2), (9, x9), (10, x10)], 26, m⟩
def r2 := findReg b 2
def i0 := findCond b 0
def i0t := thenOf i0
def i0e := elseOf i0
def k1 := findBlk b 1
def r3 := findReg b 3
def r4 := findReg b 4
def i1 := findCond b 1
def i1t := thenOf i1
def i1e := elseOf i1
def r5 := findReg b 5
def r6 := findReg b 6
def i2 := findCond b 2
def i2t := thenOf i2
def i2e := elseOf i2
def r7 := findReg b 7
def r8 := findReg b 8
def r9 := findReg b 9
theorem b_eq : den prog ann 84 (.code b :: K) s = den prog ann 84 (.code r0 :: .code r1 :: .code k0 :: .code r9 :: .code .ret :: K) s := den_flat hf (l := [r0, r1, k0, r9, .ret]) (by kernel_rfl) K s
theorem r0_eq : den prog ann 84 (.code r0 :: K) s = mreg prog ann 84 none [] none [] [qF 6 fun s => some (.int .i64 0)] K s := (den_reg hf _ K s).trans (by kernel_rfl)
theorem r1_eq : den prog ann 84 (.code r1 :: K) s = mreg prog ann 84 none [] none [] [qC 8 1,qA 9 lenStr 8,qF 10 fun s => some (.int .i64 0)] K s := (den_reg hf _ K s).trans (by kernel_rfl)
theorem k0_eq (K : List Item) (t : List (Nat × AV)) (m : Mem) : den prog ann 84 (.code k0 :: K) ⟨t, 26, m⟩ = L0 (get t 0) (get t 1) (get t 2) (get t 9) (get t 10) m K := den_loop_enter hf (b := l0) (id := 2) (l := [0, 1, 2, 9, 10]) (by kernel_rfl) (by kernel_rfl) (by kernel_rfl) K _
theorem l0_eq (K : List Item) (t : List (Nat × AV)) (m : Mem) : den prog ann 84 (.inLoop l0 :: .inBlock 0 :: K) ⟨t, 26, m⟩ = L0 (get t 0) (get t 1) (get t 2) (get t 9) (get t 10) m K := den_loop_again hf (id := 2) (l := [0, 1, 2, 9, 10]) (by kernel_rfl) (by kernel_rfl) (.inBlock 0 :: K) _
theorem L0_eq (x0 x1 x2 x9 x10 : AV) (m : Mem) (K : List Item) : L0 x0 x1 x2 x9 x10 m K = den prog ann 84 (.code r2 :: .code i0 :: .code k1 :: .code r8 :: .inLoop l0 :: .inBlock 0 :: K) ⟨[(0, x0), (1, x1), (2, x2), (9, x9), (10, x10)], 26, m⟩ := den_flat hf (l := [r2, i0, k1, r8]) (by kernel_rfl) _ _
theorem r2_eq : den prog ann 84 (.code r2 :: K) s = mreg prog ann 84 (some [0, 1, 2, 9, 10]) [] none [] [qB 11 (binA prog .lss 3) 10 9] K s := (den_reg hf _ K s).trans (by kernel_rfl)
theorem i0_eq : den prog ann 84 (.code i0 :: K) s = ifV prog ann 84 11 i0t i0e K s (s.get 11) := den_if hf (by kernel_rfl) K s
theorem i0t_eq : den prog ann 84 (.code i0t :: K) s = den prog ann 84 (K) s := den_flat hf (l := []) (by kernel_rfl) K s
theorem i0e_eq : den prog ann 84 (.code i0e :: K) s = den prog ann 84 (.code (.exit 0) :: K) s := den_flat hf (l := [(.exit 0)]) (by kernel_rfl) K s
theorem k1_eq : den prog ann 84 (.code k1 :: K) s = den prog ann 84 (.code r3 :: .code r4 :: .code i1 :: .code r6 :: .code i2 :: .inBlock 1 :: K) s := den_blk hf (b := blkOf k1) (l := [r3, r4, i1, r6, i2]) (by kernel_rfl) (by kernel_rfl) K s
theorem r3_eq : den prog ann 84 (.code r3 :: K) s = mreg prog ann 84 none [] none [] [qC 12 10,qC 7 12] K s := (den_reg hf _ K s).trans (by kernel_rfl)
theorem r4_eq : den prog ann 84 (.code r4 :: K) s = mreg prog ann 84 none [] none [] [qC 13 1,qC 14 7,qB 15 idxStr 13 14,qC 16 2,qB 17 (binA prog .eql 5) 15 16] K s := (den_reg hf _ K s).trans (by kernel_rfl)
theorem i1_eq : den prog ann 84 (.code i1 :: K) s = ifV prog ann 84 17 i1t i1e K s (s.get 17) := den_if hf (by kernel_rfl) K s
theorem i1t_eq : den prog ann 84 (.code i1t :: K) s = den prog ann 84 (.code r5 :: .code .ret :: K) s := den_flat hf (l := [r5, .ret]) (by kernel_rfl) K s
theorem r5_eq : den prog ann 84 (.code r5 :: K) s = mreg prog ann 84 none [] none [] [qC 18 7,qC 6 18] K s := (den_reg hf _ K s).trans (by kernel_rfl)
theorem i1e_eq : den prog ann 84 (.code i1e :: K) s = den prog ann 84 (K) s := den_flat hf (l := []) (by kernel_rfl) K s
theorem r6_eq : den prog ann 84 (.code r6 :: K) s = mreg prog ann 84 none [] none [] [qC 19 0,qC 20 1,qC 21 7,qB 22 idxStr 20 21,qC 23 2,⟨some 24, none, .c 0 (fun s => (.fn 88 [] [])) fun s => [(s.get 19), (s.get 22), (s.get 23)]⟩] K s := (den_reg hf _ K s).trans (by kernel_rfl)
theorem i2_eq : den prog ann 84 (.code i2 :: K) s = ifV prog ann 84 24 i2t i2e K s (s.get 24) := den_if hf (by kernel_rfl) K s
theorem i2t_eq : den prog ann 84 (.code i2t :: K) s = den prog ann 84 (.code r7 :: .code .ret :: K) s := den_flat hf (l := [r7, .ret]) (by kernel_rfl) K s
theorem r7_eq : den prog ann 84 (.code r7 :: K) s = mreg prog ann 84 none [] none [] [qF 6 fun s => some (.int .i64 (-1))] K s := (den_reg hf _ K s).trans (by kernel_rfl)
theorem i2e_eq : den prog ann 84 (.code i2e :: K) s = den prog ann 84 (K) s := den_flat hf (l := []) (by kernel_rfl) K s
theorem r8_eq : den prog ann 84 (.code r8 :: K) s = mreg prog ann 84 (some [0, 1, 2, 9, 10]) [] none [] [qF 25 fun s => binA prog .add 3 (s.get 10) (.int .i64 1),qC 10 25] K s := (den_reg hf _ K s).trans (by kernel_rfl)
theorem r9_eq : den prog ann 84 (.code r9 :: K) s = mreg prog ann 84 (some []) [] none [] [qF 6 fun s => some (.int .i64 (-1))] K s := (den_reg hf _ K s).trans (by kernel_rfl)
theorem ret_eq : den prog ann 84 (.code .ret :: K) s = finM true [fun s => some (s.get 6)] s := (den_ret hf K s).trans (by kernel_rfl)
theorem nil_eq (s : St) : den prog ann 84 [] s = finM true [fun s => some (s.get 6)] s := (den_nil hf s).trans (by kernel_rfl)
theorem inBlock_eq (id : Nat) (K : List Item) (s : St) : den prog ann 84 (.inBlock id :: K) s = den prog ann 84 K s := den_inBlock hf id K s
theorem exit_eq (id : Nat) (K : List Item) (s : St) : den prog ann 84 (.code (.exit id) :: K) s = exitV prog ann 84 (exitTo id K) s := den_exitV hf id K s
theorem call_eq (v0 v1 v2 : AV) (m : Mem) (h : closedL [v0, v1, v2] = true) : denC prog ann 84 [v0, v1, v2] m = (den prog ann 84 [.code b] ⟨[(0, v0), (1, v1), (2, v2)], 26, Mem.empty⟩).bind fun r => some (r.1, m) := (denC_pure hf (b := b) (by kernel_rfl) (by kernel_rfl) (by kernel_rfl) h m).trans (by kernel_rfl)
theorem pure_eq : (ann 84).pure = true := by kernel_rfl
attribute [simp] b_eq r0_eq r1_eq k0_eq l0_eq r2_eq i0_eq i0t_eq i0e_eq k1_eq r3_eq r4_eq i1_eq i1t_eq r5_eq i1e_eq r6_eq i2_eq i2t_eq r7_eq i2e_eq r8_eq r9_eq ret_eq nil_eq inBlock_eq exit_eq pure_eq
end
end stitch_threads_front
namespace stitch_without
noncomputable section
variable (K : List Item) (s : St)
def b : Code := (Try.f86.body).getD .skip
theorem hf : prog.funcs[86]? = some Try.f86 := by kernel_rfl
def r0 := findReg b 0
def r1 := findReg b 1
theorem b_eq : den prog ann 86 (.code b :: K) s = den prog ann 86 (.code r0 :: .code r1 :: .code .ret :: K) s := den_flat hf (l := [r0, r1, .ret]) (by kernel_rfl) K s
theorem r0_eq : den prog ann 86 (.code r0 :: K) s = mreg prog ann 86 none [] none [] [qF 4 fun s => some (.str [])] K s := (den_reg hf _ K s).trans (by kernel_rfl)
theorem r1_draw : drawOk (fun g => (ann g).pure) (modeOf (ann 86) (idOf r1)) (frzOf (ann 86) (idOf r1)) (opsOf r1) = true := drawOk_of (an := [0, 0, 3, 0, 0, 16, 56, 127, 255]) (by kernel_rfl) (by kernel_rfl)
theorem r1_eq : den prog ann 86 (.code r1 :: K) s = mreg prog ann 86 none [] (some 9) [] [qC 5 0,qC 6 1,qF 7 fun s => sliceStr (s.get 5) none (some (s.get 6)),qC 8 0,qC 9 1,qF 10 fun s => binA prog .add 3 (s.get 9) (.int .i64 1),qF 11 fun s => sliceStr (s.get 8) (some (s.get 10)) none,qB 12 (binA prog .add 9) 7 11,qC 4 12] K s := (den_regD hf r1_draw K s).trans (by kernel_rfl)
theorem ret_eq : den prog ann 86 (.code .ret :: K) s = finM true [fun s => some (s.get 4)] s := (den_ret hf K s).trans (by kernel_rfl)
theorem nil_eq (s : St) : den prog ann 86 [] s = finM true [fun s => some (s.get 4)] s := (den_nil hf s).trans (by kernel_rfl)
theorem inBlock_eq (id : Nat) (K : List Item) (s : St) : den prog ann 86 (.inBlock id :: K) s = den prog ann 86 K s := den_inBlock hf id K s
theorem exit_eq (id : Nat) (K : List Item) (s : St) : den prog ann 86 (.code (.exit id) :: K) s = exitV prog ann 86 (exitTo id K) s := den_exitV hf id K s
theorem call_eq (v0 v1 : AV) (m : Mem) (h : closedL [v0, v1] = true) : denC prog ann 86 [v0, v1] m = (den prog ann 86 [.code b] ⟨[(0, v0), (1, v1)], 13, Mem.empty⟩).bind fun r => some (r.1, m) := (denC_pure hf (b := b) (by kernel_rfl) (by kernel_rfl) (by kernel_rfl) h m).trans (by kernel_rfl)
theorem pure_eq : (ann 86).pure = true := by kernel_rfl
attribute [simp] b_eq r0_eq r1_eq ret_eq nil_eq inBlock_eq exit_eq pure_eq
end
end stitch_without
namespace stitch_threads_least
noncomputable section
variable (K : List Item) (s : St)
def b : Code := (Try.f85.body).getD .skip
theorem hf : prog.funcs[85]? = some Try.f85 := by kernel_rfl
def r0 := findReg b 0
def r1 := findReg b 1
def k0 := findBlk b 0
def l0 := loopOf k0
def L0 (x0 x1 x5 : AV) (m : Mem) (K : List Item) : Option Res := den prog ann 85 (.code l0 :: .inLoop l0 :: .inBlock 0 :: K) ⟨[(0, x0), (1, x1), (5, x5)], 37, m⟩
def r2 := findReg b 2
def i0 := findCond b 0
def i0t := thenOf i0
def i0e := elseOf i0
def k1 := findBlk b 1
def r3 := findReg b 3
def k2 := findBlk b 2
def l2 := loopOf k2
def L2 (x0 x1 x5 x14 x15 : AV) (m : Mem) (K : List Item) : Option Res := den prog ann 85 (.code l2 :: .inLoop l2 :: .inBlock 2 :: K) ⟨[(0, x0), (1, x1), (5, x5), (14, x14), (15, x15)], 37, m⟩
def r4 := findReg b 4
def i1 := findCond b 1
def i1t := thenOf i1
def i1e := elseOf i1
def k3 := findBlk b 3
def r5 := findReg b 5
def r6 := findReg b 6
def r7 := findReg b 7
def r8 := findReg b 8
def i2 := findCond b 2
def i2t := thenOf i2
def i2e := elseOf i2
def r9 := findReg b 9
def r10 := findReg b 10
def r11 := findReg b 11
theorem b_eq : den prog ann 85 (.code b :: K) s = den prog ann 85 (.code r0 :: .code r1 :: .code k0 :: .code r11 :: .code .ret :: K) s := den_flat hf (l := [r0, r1, k0, r11, .ret]) (by kernel_rfl) K s
theorem r0_eq : den prog ann 85 (.code r0 :: K) s = mreg prog ann 85 none [] none [] [qF 4 fun s => some (.str [])] K s := (den_reg hf _ K s).trans (by kernel_rfl)
theorem r1_eq : den prog ann 85 (.code r1 :: K) s = mreg prog ann 85 none [] none [] [qF 5 fun s => some (.nils)] K s := (den_reg hf _ K s).trans (by kernel_rfl)
theorem k0_eq (K : List Item) (t : List (Nat × AV)) (m : Mem) : den prog ann 85 (.code k0 :: K) ⟨t, 37, m⟩ = L0 (get t 0) (get t 1) (get t 5) m K := den_loop_enter hf (b := l0) (id := 2) (l := [0, 1, 5]) (by kernel_rfl) (by kernel_rfl) (by kernel_rfl) K _
theorem l0_eq (K : List Item) (t : List (Nat × AV)) (m : Mem) : den prog ann 85 (.inLoop l0 :: .inBlock 0 :: K) ⟨t, 37, m⟩ = L0 (get t 0) (get t 1) (get t 5) m K := den_loop_again hf (id := 2) (l := [0, 1, 5]) (by kernel_rfl) (by kernel_rfl) (.inBlock 0 :: K) _
theorem L0_eq (x0 x1 x5 : AV) (m : Mem) (K : List Item) : L0 x0 x1 x5 m K = den prog ann 85 (.code r2 :: .code i0 :: .code k1 :: .inLoop l0 :: .inBlock 0 :: K) ⟨[(0, x0), (1, x1), (5, x5)], 37, m⟩ := den_flat hf (l := [r2, i0, k1]) (by kernel_rfl) _ _
theorem r2_eq : den prog ann 85 (.code r2 :: K) s = mreg prog ann 85 (some [0, 1, 5]) [] none [] [qC 9 1,qF 10 fun s => binA prog .neq 9 (s.get 9) (.str [])] K s := (den_reg hf _ K s).trans (by kernel_rfl)
theorem i0_eq : den prog ann 85 (.code i0 :: K) s = ifV prog ann 85 10 i0t i0e K s (s.get 10) := den_if hf (by kernel_rfl) K s
theorem i0t_eq : den prog ann 85 (.code i0t :: K) s = den prog ann 85 (K) s := den_flat hf (l := []) (by kernel_rfl) K s
theorem i0e_eq : den prog ann 85 (.code i0e :: K) s = den prog ann 85 (.code (.exit 0) :: K) s := den_flat hf (l := [(.exit 0)]) (by kernel_rfl) K s
theorem k1_eq : den prog ann 85 (.code k1 :: K) s = den prog ann 85 (.code r3 :: .code k2 :: .inBlock 1 :: K) s := den_blk hf (b := blkOf k1) (l := [r3, k2]) (by kernel_rfl) (by kernel_rfl) K s
theorem r3_eq : den prog ann 85 (.code r3 :: K) s = mreg prog ann 85 none [] none [] [qC 11 0,qA 12 nilA 11,qA 13 (fieldA 0) 12,qA 14 (loadF false 1) 13,qF 15 fun s => some (.int .i64 0)] K s := (den_reg hf _ K s).trans (by kernel_rfl)
theorem k2_eq (K : List Item) (t : List (Nat × AV)) (m : Mem) : den prog ann 85 (.code k2 :: K) ⟨t, 37, m⟩ = L2 (get t 0) (get t 1) (get t 5) (get t 14) (get t 15) m K := den_loop_enter hf (b := l2) (id := 4) (l := [0, 1, 5, 14, 15]) (by kernel_rfl) (by kernel_rfl) (by kernel_rfl) K _
theorem l2_eq (K : List Item) (t : List (Nat × AV)) (m : Mem) : den prog ann 85 (.inLoop l2 :: .inBlock 2 :: K) ⟨t, 37, m⟩ = L2 (get t 0) (get t 1) (get t 5) (get t 14) (get t 15) m K := den_loop_again hf (id := 4) (l := [0, 1, 5, 14, 15]) (by kernel_rfl) (by kernel_rfl) (.inBlock 2 :: K) _
theorem L2_eq (x0 x1 x5 x14 x15 : AV) (m : Mem) (K : List Item) : L2 x0 x1 x5 x14 x15 m K = den prog ann 85 (.code r4 :: .code i1 :: .code k3 :: .code r10 :: .inLoop l2 :: .inBlock 2 :: K) ⟨[(0, x0), (1, x1), (5, x5), (14, x14), (15, x15)], 37, m⟩ := den_flat hf (l := [r4, i1, k3, r10]) (by kernel_rfl) _ _
theorem r4_eq : den prog ann 85 (.code r4 :: K) s = mreg prog ann 85 (some [0, 1, 5, 14, 15]) [] none [] [qB 16 (binA prog .lss 3) 15 14] K s := (den_reg hf _ K s).trans (by kernel_rfl)
theorem i1_eq : den prog ann 85 (.code i1 :: K) s = ifV prog ann 85 16 i1t i1e K s (s.get 16) := den_if hf (by kernel_rfl) K s
theorem i1t_eq : den prog ann 85 (.code i1t :: K) s = den prog ann 85 (K) s := den_flat hf (l := []) (by kernel_rfl) K s
theorem i1e_eq : den prog ann 85 (.code i1e :: K) s = den prog ann 85 (.code (.exit 2) :: K) s := den_flat hf (l := [(.exit 2)]) (by kernel_rfl) K s
theorem k3_eq : den prog ann 85 (.code k3 :: K) s = den prog ann 85 (.code r5 :: .code r6 :: .code r7 :: .code r8 :: .code i2 :: .inBlock 3 :: K) s := den_blk hf (b := blkOf k3) (l := [r5, r6, r7, r8, i2]) (by kernel_rfl) (by kernel_rfl) K s
theorem r5_eq : den prog ann 85 (.code r5 :: K) s = mreg prog ann 85 none [] none [] [qC 17 15,qC 6 17] K s := (den_reg hf _ K s).trans (by kernel_rfl)
theorem r6_eq : den prog ann 85 (.code r6 :: K) s = mreg prog ann 85 none [] none [] [qC 18 6,qA 19 (convInt .u8) 18,qA 20 (binA prog .add 5 (.int .u8 97)) 19,qC 7 20] K s := (den_reg hf _ K s).trans (by kernel_rfl)
theorem r7_eq : den prog ann 85 (.code r7 :: K) s = mreg prog ann 85 none [] none [] [qC 21 0,qC 22 1,qC 23 7,⟨some 24, none, .c 0 (fun s => (.fn 84 [] [])) fun s => [(s.get 21), (s.get 22), (s.get 23)]⟩,qC 8 24] K s := (den_reg hf _ K s).trans (by kernel_rfl)
theorem r8_eq : den prog ann 85 (.code r8 :: K) s = mreg prog ann 85 none [] none [] [qC 25 8,qF 26 fun s => binA prog .geq 3 (s.get 25) (.int .i64 0)] K s := (den_reg hf _ K s).trans (by kernel_rfl)
theorem i2_eq : den prog ann 85 (.code i2 :: K) s = ifV prog ann 85 26 i2t i2e K s (s.get 26) := den_if hf (by kernel_rfl) K s
theorem i2t_eq : den prog ann 85 (.code i2t :: K) s = den prog ann 85 (.code r9 :: .code (.exit 2) :: K) s := den_flat hf (l := [r9, (.exit 2)]) (by kernel_rfl) K s
theorem r9_eq : den prog ann 85 (.code r9 :: K) s = mreg prog ann 85 none [] none [] [qC 27 5,qC 28 7,qF 29 fun s => bslF 1 (bslA 1 1 [.int .u8 0] [(0, (s.get 28))]),⟨some 30, none, .w false none fun s => appendA 1 1 s.m (s.get 27) (s.get 29)⟩,qC 31 1,qC 32 8,⟨some 33, none, .c 0 (fun s => (.fn 86 [] [])) fun s => [(s.get 31), (s.get 32)]⟩,qC 5 30,qC 1 33] K s := (den_reg hf _ K s).trans (by kernel_rfl)
theorem i2e_eq : den prog ann 85 (.code i2e :: K) s = den prog ann 85 (K) s := den_flat hf (l := []) (by kernel_rfl) K s
theorem r10_eq : den prog ann 85 (.code r10 :: K) s = mreg prog ann 85 (some [0, 1, 5, 14, 15]) [] none [] [qF 34 fun s => binA prog .add 3 (s.get 15) (.int .i64 1),qC 15 34] K s := (den_reg hf _ K s).trans (by kernel_rfl)
theorem r11_eq : den prog ann 85 (.code r11 :: K) s = mreg prog ann 85 (some [5]) [] none [] [qC 35 5,qF 36 fun s => convStr s.m (s.get 35),qC 4 36] K s := (den_reg hf _ K s).trans (by kernel_rfl)
theorem ret_eq : den prog ann 85 (.code .ret :: K) s = finM true [fun s => some (s.get 4)] s := (den_ret hf K s).trans (by kernel_rfl)
theorem nil_eq (s : St) : den prog ann 85 [] s = finM true [fun s => some (s.get 4)] s := (den_nil hf s).trans (by kernel_rfl)
theorem inBlock_eq (id : Nat) (K : List Item) (s : St) : den prog ann 85 (.inBlock id :: K) s = den prog ann 85 K s := den_inBlock hf id K s
theorem exit_eq (id : Nat) (K : List Item) (s : St) : den prog ann 85 (.code (.exit id) :: K) s = exitV prog ann 85 (exitTo id K) s := den_exitV hf id K s
theorem call_eq (v0 v1 : AV) (m : Mem) (h : closedL [v0, v1] = true) : denC prog ann 85 [v0, v1] m = (den prog ann 85 [.code b] ⟨[(0, v0), (1, v1)], 37, Mem.empty⟩).bind fun r => some (r.1, m) := (denC_pure hf (b := b) (by kernel_rfl) (by kernel_rfl) (by kernel_rfl) h m).trans (by kernel_rfl)
theorem pure_eq : (ann 85).pure = true := by kernel_rfl
attribute [simp] b_eq r0_eq r1_eq k0_eq l0_eq r2_eq i0_eq i0t_eq i0e_eq k1_eq r3_eq k2_eq l2_eq r4_eq i1_eq i1t_eq i1e_eq k3_eq r5_eq r6_eq r7_eq r8_eq i2_eq i2t_eq r9_eq i2e_eq r10_eq r11_eq ret_eq nil_eq inBlock_eq exit_eq pure_eq
end
end stitch_threads_least
namespace stitch_read
noncomputable section
variable (K : List Item) (s : St)
def b : Code := (Try.f99.body).getD .skip
theorem hf : prog.funcs[99]? = some Try.f99 := by kernel_rfl
def r0 := findReg b 0
def r1 := findReg b 1
def i0 := findCond b 0
def i0t := thenOf i0
def i0e := elseOf i0
def r2 := findReg b 2
def r3 := findReg b 3
def r4 := findReg b 4
def k0 := findBlk b 0
def l0 := loopOf k0
def L0 (x0 x6 x23 x24 x25 : AV) (m : Mem) (K : List Item) : Option Res := den prog ann 99 (.code l0 :: .inLoop l0 :: .inBlock 0 :: K) ⟨[(0, x0), (6, x6), (23, x23), (24, x24), (25, x25)], 71, m⟩
def r5 := findReg b 5
def i1 := findCond b 1
def i1t := thenOf i1
def i1e := elseOf i1
def k1 := findBlk b 1
def r6 := findReg b 6
def r7 := findReg b 7
def i2 := findCond b 2
def i2t := thenOf i2
def i2e := elseOf i2
def r8 := findReg b 8
def r9 := findReg b 9
def r10 := findReg b 10
def r11 := findReg b 11
theorem b_eq : den prog ann 99 (.code b :: K) s = den prog ann 99 (.code r0 :: .code r1 :: .code i0 :: .code r3 :: .code r4 :: .code k0 :: .code r11 :: .code .ret :: K) s := den_flat hf (l := [r0, r1, i0, r3, r4, k0, r11, .ret]) (by kernel_rfl) K s
theorem r0_eq : den prog ann 99 (.code r0 :: K) s = mreg prog ann 99 none [] none [] [qF 4 fun s => some (.nilp),qF 5 fun s => some (.bool false)] K s := (den_reg hf _ K s).trans (by kernel_rfl)
theorem r1_eq : den prog ann 99 (.code r1 :: K) s = mreg prog ann 99 none [] none [] [qC 9 0,qF 10 fun s => binA prog .lss 3 (s.get 9) (.int .i64 1),qC 11 10,⟨some 12, some (11, false), .v fun s => some (s.get 0)⟩,⟨some 13, some (11, false), .v fun s => binA prog .gtr 3 (s.get 12) (.int .i64 6)⟩,qF 14 fun s => pickA (s.get 11) (.bool true) (s.get 13),qC 15 14,⟨some 16, some (15, false), .v fun s => some (s.get 1)⟩,⟨some 17, some (15, false), .v fun s => lenSl (s.get 16)⟩,⟨some 18, some (15, false), .v fun s => binA prog .gtr 3 (s.get 17) (.int .i64 30)⟩,qF 19 fun s => pickA (s.get 15) (.bool true) (s.get 18)] K s := (den_reg hf _ K s).trans (by kernel_rfl)
theorem i0_eq : den prog ann 99 (.code i0 :: K) s = ifV prog ann 99 19 i0t i0e K s (s.get 19) := den_if hf (by kernel_rfl) K s
theorem i0t_eq : den prog ann 99 (.code i0t :: K) s = den prog ann 99 (.code r2 :: .code .ret :: K) s := den_flat hf (l := [r2, .ret]) (by kernel_rfl) K s
theorem r2_eq : den prog ann 99 (.code r2 :: K) s = mreg prog ann 99 none [] none [] [qF 4 fun s => some (.nilp),qF 5 fun s => some (.bool false)] K s := (den_reg hf _ K s).trans (by kernel_rfl)
theorem i0e_eq : den prog ann 99 (.code i0e :: K) s = den prog ann 99 (K) s := den_flat hf (l := []) (by kernel_rfl) K s
theorem r3_eq : den prog ann 99 (.code r3 :: K) s = mreg prog ann 99 none [] none [] [qC 20 0,qF 21 fun s => bldA (plc [(0, 1), (1, 36)]) [.int .i64 0, .bool false, .bool false, .bool false, .bool false, .bool false, .bool false, .bool false, .bool false, .bool false, .bool false, .bool false, .bool false, .bool false, .bool false, .bool false, .bool false, .bool false, .bool false, .bool false, .bool false, .bool false, .bool false, .bool false, .bool false, .bool false, .bool false, .bool false, .bool false, .bool false, .bool false, .bool false, .bool false, .bool false, .bool false, .bool false, .bool false] [(0, (s.get 20))],⟨some 22, none, .w false none fun s => newPtr s.m (AV.cells (s.get 21))⟩,qC 6 22] K s := (den_reg hf _ K s).trans (by kernel_rfl)
theorem r4_eq : den prog ann 99 (.code r4 :: K) s = mreg prog ann 99 none [] none [] [qC 23 1,qA 24 lenSl 23,qF 25 fun s => some (.int .i64 0)] K s := (den_reg hf _ K s).trans (by kernel_rfl)
theorem k0_eq (K : List Item) (t : List (Nat × AV)) (m : Mem) : den prog ann 99 (.code k0 :: K) ⟨t, 71, m⟩ = L0 (get t 0) (get t 6) (get t 23) (get t 24) (get t 25) m K := den_loop_enter hf (b := l0) (id := 5) (l := [0, 6, 23, 24, 25]) (by kernel_rfl) (by kernel_rfl) (by kernel_rfl) K _
theorem l0_eq (K : List Item) (t : List (Nat × AV)) (m : Mem) : den prog ann 99 (.inLoop l0 :: .inBlock 0 :: K) ⟨t, 71, m⟩ = L0 (get t 0) (get t 6) (get t 23) (get t 24) (get t 25) m K := den_loop_again hf (id := 5) (l := [0, 6, 23, 24, 25]) (by kernel_rfl) (by kernel_rfl) (.inBlock 0 :: K) _
theorem L0_eq (x0 x6 x23 x24 x25 : AV) (m : Mem) (K : List Item) : L0 x0 x6 x23 x24 x25 m K = den prog ann 99 (.code r5 :: .code i1 :: .code k1 :: .code r10 :: .inLoop l0 :: .inBlock 0 :: K) ⟨[(0, x0), (6, x6), (23, x23), (24, x24), (25, x25)], 71, m⟩ := den_flat hf (l := [r5, i1, k1, r10]) (by kernel_rfl) _ _
theorem r5_eq : den prog ann 99 (.code r5 :: K) s = mreg prog ann 99 (some [0, 6, 23, 24, 25]) [] none [] [qB 26 (binA prog .lss 3) 25 24] K s := (den_reg hf _ K s).trans (by kernel_rfl)
theorem i1_eq : den prog ann 99 (.code i1 :: K) s = ifV prog ann 99 26 i1t i1e K s (s.get 26) := den_if hf (by kernel_rfl) K s
theorem i1t_eq : den prog ann 99 (.code i1t :: K) s = den prog ann 99 (K) s := den_flat hf (l := []) (by kernel_rfl) K s
theorem i1e_eq : den prog ann 99 (.code i1e :: K) s = den prog ann 99 (.code (.exit 0) :: K) s := den_flat hf (l := [(.exit 0)]) (by kernel_rfl) K s
theorem k1_eq : den prog ann 99 (.code k1 :: K) s = den prog ann 99 (.code r6 :: .code r7 :: .code i2 :: .code r9 :: .inBlock 1 :: K) s := den_blk hf (b := blkOf k1) (l := [r6, r7, i2, r9]) (by kernel_rfl) (by kernel_rfl) K s
theorem r6_eq : den prog ann 99 (.code r6 :: K) s = mreg prog ann 99 none [] none [8] [qB 27 (idxSl 2) 23 25,qA 28 (loadF true 2) 27,⟨some 8, none, .w false none fun s => newPtr s.m [.int .i64 0, .int .i64 0]⟩,⟨none, none, .w false none fun s => stA true 2 s.m (s.get 8) (s.get 28)⟩] K s := (den_reg hf _ K s).trans (by kernel_rfl)
theorem r7_eq : den prog ann 99 (.code r7 :: K) s = mreg prog ann 99 none [] none [] [qA 29 (fieldA 0) 8,qA 30 (loadF false 1) 29,qA 31 (fieldA 1) 8,qA 32 (loadF false 1) 31,qF 33 fun s => foldA min2A (s.get 30) [(s.get 32)],qF 34 fun s => binA prog .lss 3 (s.get 33) (.int .i64 0),qC 35 34,⟨some 36, some (35, false), .v fun s => fieldA 0 (s.get 8)⟩,⟨some 37, some (35, false), .v fun s => loadF false 1 (s.get 36)⟩,⟨some 38, some (35, false), .v fun s => fieldA 1 (s.get 8)⟩,⟨some 39, some (35, false), .v fun s => loadF false 1 (s.get 38)⟩,⟨some 40, some (35, false), .v fun s => foldA max2A (s.get 37) [(s.get 39)]⟩,⟨some 41, some (35, false), .v fun s => some (s.get 0)⟩,⟨some 42, some (35, false), .v fun s => binA prog .geq 3 (s.get 40) (s.get 41)⟩,qF 43 fun s => pickA (s.get 35) (.bool true) (s.get 42),qC 44 43,⟨some 45, some (44, false), .v fun s => fieldA 0 (s.get 8)⟩,⟨some 46, some (44, false), .v fun s => loadF false 1 (s.get 45)⟩,⟨some 47, some (44, false), .v fun s => fieldA 1 (s.get 8)⟩,⟨some 48, some (44, false), .v fun s => loadF false 1 (s.get 47)⟩,⟨some 49, some (44, false), .v fun s => binA prog .eql 3 (s.get 46) (s.get 48)⟩,qF 50 fun s => pickA (s.get 44) (.bool true) (s.get 49)] K s := (den_reg hf _ K s).trans (by kernel_rfl)
theorem i2_eq : den prog ann 99 (.code i2 :: K) s = ifV prog ann 99 50 i2t i2e K s (s.get 50) := den_if hf (by kernel_rfl) K s
theorem i2t_eq : den prog ann 99 (.code i2t :: K) s = den prog ann 99 (.code r8 :: .code .ret :: K) s := den_flat hf (l := [r8, .ret]) (by kernel_rfl) K s
theorem r8_eq : den prog ann 99 (.code r8 :: K) s = mreg prog ann 99 none [] none [] [qF 4 fun s => some (.nilp),qF 5 fun s => some (.bool false)] K s := (den_reg hf _ K s).trans (by kernel_rfl)
theorem i2e_eq : den prog ann 99 (.code i2e :: K) s = den prog ann 99 (K) s := den_flat hf (l := []) (by kernel_rfl) K s
theorem r9_draw : drawOk (fun g => (ann g).pure) (modeOf (ann 99) (idOf r9)) (frzOf (ann 99) (idOf r9)) (opsOf r9) = true := drawOk_of (an := [0, 0, 2, 0, 8, 0, 0, 64, 0, 256, 1, 1025, 3079, 7199, 15391, 32, 32800, 98528, 262143, 524287]) (by kernel_rfl) (by kernel_rfl)
theorem r9_eq : den prog ann 99 (.code r9 :: K) s = mreg prog ann 99 none [] (some 20) [] [qC 51 6,qA 52 (fieldA 0) 8,qA 53 (loadF false 1) 52,qA 54 (fieldA 1) 8,qA 55 (loadF false 1) 54,qC 56 6,qA 57 (fieldA 1) 8,qA 58 (loadF false 1) 57,qA 59 (fieldA 0) 8,qA 60 (loadF false 1) 59,qA 61 nilA 51,qA 62 (fieldA 1) 61,qB 63 (idxArr 6 6) 62 53,qB 64 (idxArr 6 1) 63 55,⟨none, none, .w false (some 14) fun s => stA false 1 s.m (s.get 64) (.bool true)⟩,qA 65 nilA 56,qA 66 (fieldA 1) 65,qB 67 (idxArr 6 6) 66 58,qB 68 (idxArr 6 1) 67 60,⟨none, none, .w false (some 19) fun s => stA false 1 s.m (s.get 68) (.bool true)⟩] K s := (den_regD hf r9_draw K s).trans (by kernel_rfl)
theorem r10_eq : den prog ann 99 (.code r10 :: K) s = mreg prog ann 99 (some [0, 6, 23, 24, 25]) [] none [] [qF 69 fun s => binA prog .add 3 (s.get 25) (.int .i64 1),qC 25 69] K s := (den_reg hf _ K s).trans (by kernel_rfl)
theorem r11_eq : den prog ann 99 (.code r11 :: K) s = mreg prog ann 99 (some [6]) [] none [] [qC 70 6,qC 4 70,qF 5 fun s => some (.bool true)] K s := (den_reg hf _ K s).trans (by kernel_rfl)
theorem ret_eq : den prog ann 99 (.code .ret :: K) s = finM true [fun s => some (s.get 4), fun s => some (s.get 5)] s := (den_ret hf K s).trans (by kernel_rfl)
theorem nil_eq (s : St) : den prog ann 99 [] s = finM true [fun s => some (s.get 4), fun s => some (s.get 5)] s := (den_nil hf s).trans (by kernel_rfl)
theorem inBlock_eq (id : Nat) (K : List Item) (s : St) : den prog ann 99 (.inBlock id :: K) s = den prog ann 99 K s := den_inBlock hf id K s
theorem exit_eq (id : Nat) (K : List Item) (s : St) : den prog ann 99 (.code (.exit id) :: K) s = exitV prog ann 99 (exitTo id K) s := den_exitV hf id K s
theorem call_eq (v0 v1 : AV) (m : Mem) (h : closedL [v0, v1] = true) : denC prog ann 99 [v0, v1] m = (den prog ann 99 [.code b] ⟨[(0, v0), (1, v1)], 71, Mem.empty⟩).bind fun r => some (r.1, m) := (denC_pure hf (b := b) (by kernel_rfl) (by kernel_rfl) (by kernel_rfl) h m).trans (by kernel_rfl)
theorem pure_eq : (ann 99).pure = true := by kernel_rfl
attribute [simp] b_eq r0_eq r1_eq i0_eq i0t_eq r2_eq i0e_eq r3_eq r4_eq k0_eq l0_eq r5_eq i1_eq i1t_eq i1e_eq k1_eq r6_eq r7_eq i2_eq i2t_eq r8_eq i2e_eq r9_eq r10_eq r11_eq ret_eq nil_eq inBlock_eq exit_eq pure_eq
end
end stitch_read
namespace stitch_seams
noncomputable section
variable (K : List Item) (s : St)
def b : Code := (Try.f82.body).getD .skip
theorem hf : prog.funcs[82]? = some Try.f82 := by kernel_rfl
def r0 := findReg b 0
def r1 := findReg b 1
def r2 := findReg b 2
def i0 := findCond b 0
def i0t := thenOf i0
def i0e := elseOf i0
def r3 := findReg b 3
def r4 := findReg b 4
def k0 := findBlk b 0
def l0 := loopOf k0
def L0 (x0 x2 x3 x10 x25 x26 x27 : AV) (m : Mem) (K : List Item) : Option Res := den prog ann 82 (.code l0 :: .inLoop l0 :: .inBlock 0 :: K) ⟨[(0, x0), (2, x2), (3, x3), (10, x10), (25, x25), (26, x26), (27, x27)], 63, m⟩
def r5 := findReg b 5
def i1 := findCond b 1
def i1t := thenOf i1
def i1e := elseOf i1
def k1 := findBlk b 1
def r6 := findReg b 6
def r7 := findReg b 7
def i2 := findCond b 2
def i2t := thenOf i2
def i2e := elseOf i2
def r8 := findReg b 8
def r9 := findReg b 9
def r10 := findReg b 10
def k2 := findBlk b 2
def l2 := loopOf k2
def L2 (x0 x10 x36 x37 x38 : AV) (m : Mem) (K : List Item) : Option Res := den prog ann 82 (.code l2 :: .inLoop l2 :: .inBlock 2 :: K) ⟨[(0, x0), (10, x10), (36, x36), (37, x37), (38, x38)], 63, m⟩
def r11 := findReg b 11
def i3 := findCond b 3
def i3t := thenOf i3
def i3e := elseOf i3
def k3 := findBlk b 3
def r12 := findReg b 12
def r13 := findReg b 13
def k4 := findBlk b 4
def l4 := loopOf k4
def L4 (x0 x10 x15 x36 x37 x38 x43 x44 : AV) (m : Mem) (K : List Item) : Option Res := den prog ann 82 (.code l4 :: .inLoop l4 :: .inBlock 4 :: K) ⟨[(0, x0), (10, x10), (15, x15), (36, x36), (37, x37), (38, x38), (43, x43), (44, x44)], 63, m⟩
def r14 := findReg b 14
def i4 := findCond b 4
def i4t := thenOf i4
def i4e := elseOf i4
def k5 := findBlk b 5
def r15 := findReg b 15
def r16 := findReg b 16
def i5 := findCond b 5
def i5t := thenOf i5
def i5e := elseOf i5
def r17 := findReg b 17
def r18 := findReg b 18
def r19 := findReg b 19
def r20 := findReg b 20
theorem b_eq : den prog ann 82 (.code b :: K) s = den prog ann 82 (.code r0 :: .code r1 :: .code r2 :: .code i0 :: .code r4 :: .code k0 :: .code r10 :: .code k2 :: .code r20 :: .code .ret :: K) s := den_flat hf (l := [r0, r1, r2, i0, r4, k0, r10, k2, r20, .ret]) (by kernel_rfl) K s
theorem r0_eq : den prog ann 82 (.code r0 :: K) s = mreg prog ann 82 none [] none [] [qF 8 fun s => some (.nilp),qF 9 fun s => some (.int .i64 0)] K s := (den_reg hf _ K s).trans (by kernel_rfl)
theorem r1_eq : den prog ann 82 (.code r1 :: K) s = mreg prog ann 82 none [] none [] [qC 18 0,qC 19 1,⟨some 20, none, .c 0 (fun s => (.fn 99 [] [])) fun s => [(s.get 18), (s.get 19)]⟩,qC 17 20,qF 21 fun s => extA (s.get 17) 0,qF 22 fun s => extA (s.get 17) 1,qC 10 21,qC 11 22] K s := (den_reg hf _ K s).trans (by kernel_rfl)
theorem r2_eq : den prog ann 82 (.code r2 :: K) s = mreg prog ann 82 none [] none [] [qC 23 11,qA 24 (unA .not) 23] K s := (den_reg hf _ K s).trans (by kernel_rfl)
theorem i0_eq : den prog ann 82 (.code i0 :: K) s = ifV prog ann 82 24 i0t i0e K s (s.get 24) := den_if hf (by kernel_rfl) K s
theorem i0t_eq : den prog ann 82 (.code i0t :: K) s = den prog ann 82 (.code r3 :: .code .ret :: K) s := den_flat hf (l := [r3, .ret]) (by kernel_rfl) K s
theorem r3_eq : den prog ann 82 (.code r3 :: K) s = mreg prog ann 82 none [] none [] [qF 8 fun s => some (.nilp),qF 9 fun s => some (.int .i64 1)] K s := (den_reg hf _ K s).trans (by kernel_rfl)
theorem i0e_eq : den prog ann 82 (.code i0e :: K) s = den prog ann 82 (K) s := den_flat hf (l := []) (by kernel_rfl) K s
theorem r4_eq : den prog ann 82 (.code r4 :: K) s = mreg prog ann 82 none [] none [] [qC 25 3,qA 26 lenSl 25,qF 27 fun s => some (.int .i64 0)] K s := (den_reg hf _ K s).trans (by kernel_rfl)
theorem k0_eq (K : List Item) (t : List (Nat × AV)) (m : Mem) : den prog ann 82 (.code k0 :: K) ⟨t, 63, m⟩ = L0 (get t 0) (get t 2) (get t 3) (get t 10) (get t 25) (get t 26) (get t 27) m K := den_loop_enter hf (b := l0) (id := 5) (l := [0, 2, 3, 10, 25, 26, 27]) (by kernel_rfl) (by kernel_rfl) (by kernel_rfl) K _
theorem l0_eq (K : List Item) (t : List (Nat × AV)) (m : Mem) : den prog ann 82 (.inLoop l0 :: .inBlock 0 :: K) ⟨t, 63, m⟩ = L0 (get t 0) (get t 2) (get t 3) (get t 10) (get t 25) (get t 26) (get t 27) m K := den_loop_again hf (id := 5) (l := [0, 2, 3, 10, 25, 26, 27]) (by kernel_rfl) (by kernel_rfl) (.inBlock 0 :: K) _
theorem L0_eq (x0 x2 x3 x10 x25 x26 x27 : AV) (m : Mem) (K : List Item) : L0 x0 x2 x3 x10 x25 x26 x27 m K = den prog ann 82 (.code r5 :: .code i1 :: .code k1 :: .code r9 :: .inLoop l0 :: .inBlock 0 :: K) ⟨[(0, x0), (2, x2), (3, x3), (10, x10), (25, x25), (26, x26), (27, x27)], 63, m⟩ := den_flat hf (l := [r5, i1, k1, r9]) (by kernel_rfl) _ _
theorem r5_eq : den prog ann 82 (.code r5 :: K) s = mreg prog ann 82 (some [0, 2, 3, 10, 25, 26, 27]) [] none [] [qB 28 (binA prog .lss 3) 27 26] K s := (den_reg hf _ K s).trans (by kernel_rfl)
theorem i1_eq : den prog ann 82 (.code i1 :: K) s = ifV prog ann 82 28 i1t i1e K s (s.get 28) := den_if hf (by kernel_rfl) K s
theorem i1t_eq : den prog ann 82 (.code i1t :: K) s = den prog ann 82 (K) s := den_flat hf (l := []) (by kernel_rfl) K s
theorem i1e_eq : den prog ann 82 (.code i1e :: K) s = den prog ann 82 (.code (.exit 0) :: K) s := den_flat hf (l := [(.exit 0)]) (by kernel_rfl) K s
theorem k1_eq : den prog ann 82 (.code k1 :: K) s = den prog ann 82 (.code r6 :: .code r7 :: .code i2 :: .inBlock 1 :: K) s := den_blk hf (b := blkOf k1) (l := [r6, r7, i2]) (by kernel_rfl) (by kernel_rfl) K s
theorem r6_eq : den prog ann 82 (.code r6 :: K) s = mreg prog ann 82 none [] none [] [qB 29 (idxSl 1) 25 27,qA 30 (loadF false 1) 29,qC 13 30] K s := (den_reg hf _ K s).trans (by kernel_rfl)
theorem r7_eq : den prog ann 82 (.code r7 :: K) s = mreg prog ann 82 none [] none [] [qC 31 13,qA 32 lenStr 31,qC 33 2,qB 34 (binA prog .gtr 3) 32 33] K s := (den_reg hf _ K s).trans (by kernel_rfl)
theorem i2_eq : den prog ann 82 (.code i2 :: K) s = ifV prog ann 82 34 i2t i2e K s (s.get 34) := den_if hf (by kernel_rfl) K s
theorem i2t_eq : den prog ann 82 (.code i2t :: K) s = den prog ann 82 (.code r8 :: .code .ret :: K) s := den_flat hf (l := [r8, .ret]) (by kernel_rfl) K s
theorem r8_eq : den prog ann 82 (.code r8 :: K) s = mreg prog ann 82 none [] none [] [qF 8 fun s => some (.nilp),qF 9 fun s => some (.int .i64 3)] K s := (den_reg hf _ K s).trans (by kernel_rfl)
theorem i2e_eq : den prog ann 82 (.code i2e :: K) s = den prog ann 82 (K) s := den_flat hf (l := []) (by kernel_rfl) K s
theorem r9_eq : den prog ann 82 (.code r9 :: K) s = mreg prog ann 82 (some [0, 2, 3, 10, 25, 26, 27]) [] none [] [qF 35 fun s => binA prog .add 3 (s.get 27) (.int .i64 1),qC 27 35] K s := (den_reg hf _ K s).trans (by kernel_rfl)
theorem r10_eq : den prog ann 82 (.code r10 :: K) s = mreg prog ann 82 (some [0, 3, 10]) [] none [] [qC 36 3,qA 37 lenSl 36,qF 38 fun s => some (.int .i64 0)] K s := (den_reg hf _ K s).trans (by kernel_rfl)
theorem k2_eq (K : List Item) (t : List (Nat × AV)) (m : Mem) : den prog ann 82 (.code k2 :: K) ⟨t, 63, m⟩ = L2 (get t 0) (get t 10) (get t 36) (get t 37) (get t 38) m K := den_loop_enter hf (b := l2) (id := 11) (l := [0, 10, 36, 37, 38]) (by kernel_rfl) (by kernel_rfl) (by kernel_rfl) K _
theorem l2_eq (K : List Item) (t : List (Nat × AV)) (m : Mem) : den prog ann 82 (.inLoop l2 :: .inBlock 2 :: K) ⟨t, 63, m⟩ = L2 (get t 0) (get t 10) (get t 36) (get t 37) (get t 38) m K := den_loop_again hf (id := 11) (l := [0, 10, 36, 37, 38]) (by kernel_rfl) (by kernel_rfl) (.inBlock 2 :: K) _
theorem L2_eq (x0 x10 x36 x37 x38 : AV) (m : Mem) (K : List Item) : L2 x0 x10 x36 x37 x38 m K = den prog ann 82 (.code r11 :: .code i3 :: .code k3 :: .code r19 :: .inLoop l2 :: .inBlock 2 :: K) ⟨[(0, x0), (10, x10), (36, x36), (37, x37), (38, x38)], 63, m⟩ := den_flat hf (l := [r11, i3, k3, r19]) (by kernel_rfl) _ _
theorem r11_eq : den prog ann 82 (.code r11 :: K) s = mreg prog ann 82 (some [0, 10, 36, 37, 38]) [] none [] [qB 39 (binA prog .lss 3) 38 37] K s := (den_reg hf _ K s).trans (by kernel_rfl)
theorem i3_eq : den prog ann 82 (.code i3 :: K) s = ifV prog ann 82 39 i3t i3e K s (s.get 39) := den_if hf (by kernel_rfl) K s
theorem i3t_eq : den prog ann 82 (.code i3t :: K) s = den prog ann 82 (K) s := den_flat hf (l := []) (by kernel_rfl) K s
theorem i3e_eq : den prog ann 82 (.code i3e :: K) s = den prog ann 82 (.code (.exit 2) :: K) s := den_flat hf (l := [(.exit 2)]) (by kernel_rfl) K s
theorem k3_eq : den prog ann 82 (.code k3 :: K) s = den prog ann 82 (.code r12 :: .code r13 :: .code k4 :: .inBlock 3 :: K) s := den_blk hf (b := blkOf k3) (l := [r12, r13, k4]) (by kernel_rfl) (by kernel_rfl) K s
theorem r12_eq : den prog ann 82 (.code r12 :: K) s = mreg prog ann 82 none [] none [] [qB 40 (idxSl 1) 36 38,qA 41 (loadF false 1) 40,qC 15 41] K s := (den_reg hf _ K s).trans (by kernel_rfl)
theorem r13_eq : den prog ann 82 (.code r13 :: K) s = mreg prog ann 82 none [] none [] [qC 42 15,qA 43 lenStr 42,qF 44 fun s => some (.int .i64 0)] K s := (den_reg hf _ K s).trans (by kernel_rfl)
theorem k4_eq (K : List Item) (t : List (Nat × AV)) (m : Mem) : den prog ann 82 (.code k4 :: K) ⟨t, 63, m⟩ = L4 (get t 0) (get t 10) (get t 15) (get t 36) (get t 37) (get t 38) (get t 43) (get t 44) m K := den_loop_enter hf (b := l4) (id := 14) (l := [0, 10, 15, 36, 37, 38, 43, 44]) (by kernel_rfl) (by kernel_rfl) (by kernel_rfl) K _
theorem l4_eq (K : List Item) (t : List (Nat × AV)) (m : Mem) : den prog ann 82 (.inLoop l4 :: .inBlock 4 :: K) ⟨t, 63, m⟩ = L4 (get t 0) (get t 10) (get t 15) (get t 36) (get t 37) (get t 38) (get t 43) (get t 44) m K := den_loop_again hf (id := 14) (l := [0, 10, 15, 36, 37, 38, 43, 44]) (by kernel_rfl) (by kernel_rfl) (.inBlock 4 :: K) _
theorem L4_eq (x0 x10 x15 x36 x37 x38 x43 x44 : AV) (m : Mem) (K : List Item) : L4 x0 x10 x15 x36 x37 x38 x43 x44 m K = den prog ann 82 (.code r14 :: .code i4 :: .code k5 :: .code r18 :: .inLoop l4 :: .inBlock 4 :: K) ⟨[(0, x0), (10, x10), (15, x15), (36, x36), (37, x37), (38, x38), (43, x43), (44, x44)], 63, m⟩ := den_flat hf (l := [r14, i4, k5, r18]) (by kernel_rfl) _ _
theorem r14_eq : den prog ann 82 (.code r14 :: K) s = mreg prog ann 82 (some [0, 10, 15, 36, 37, 38, 43, 44]) [] none [] [qB 45 (binA prog .lss 3) 44 43] K s := (den_reg hf _ K s).trans (by kernel_rfl)
theorem i4_eq : den prog ann 82 (.code i4 :: K) s = ifV prog ann 82 45 i4t i4e K s (s.get 45) := den_if hf (by kernel_rfl) K s
theorem i4t_eq : den prog ann 82 (.code i4t :: K) s = den prog ann 82 (K) s := den_flat hf (l := []) (by kernel_rfl) K s
theorem i4e_eq : den prog ann 82 (.code i4e :: K) s = den prog ann 82 (.code (.exit 4) :: K) s := den_flat hf (l := [(.exit 4)]) (by kernel_rfl) K s
theorem k5_eq : den prog ann 82 (.code k5 :: K) s = den prog ann 82 (.code r15 :: .code r16 :: .code i5 :: .inBlock 5 :: K) s := den_blk hf (b := blkOf k5) (l := [r15, r16, i5]) (by kernel_rfl) (by kernel_rfl) K s
theorem r15_eq : den prog ann 82 (.code r15 :: K) s = mreg prog ann 82 none [] none [] [qC 46 44,qC 16 46] K s := (den_reg hf _ K s).trans (by kernel_rfl)
theorem r16_eq : den prog ann 82 (.code r16 :: K) s = mreg prog ann 82 none [] none [] [qC 47 15,qC 48 16,qB 49 idxStr 47 48,qF 50 fun s => binA prog .lss 5 (s.get 49) (.int .u8 97),qC 51 50,⟨some 52, some (51, false), .v fun s => some (s.get 15)⟩,⟨some 53, some (51, false), .v fun s => some (s.get 16)⟩,⟨some 54, some (51, false), .v fun s => idxStr (s.get 52) (s.get 53)⟩,⟨some 55, some (51, false), .v fun s => some (s.get 0)⟩,⟨some 56, some (51, false), .v fun s => convInt .u8 (s.get 55)⟩,⟨some 57, some (51, false), .v fun s => binA prog .add 5 (.int .u8 97) (s.get 56)⟩,⟨some 58, some (51, false), .v fun s => binA prog .geq 5 (s.get 54) (s.get 57)⟩,qF 59 fun s => pickA (s.get 51) (.bool true) (s.get 58)] K s := (den_reg hf _ K s).trans (by kernel_rfl)
theorem i5_eq : den prog ann 82 (.code i5 :: K) s = ifV prog ann 82 59 i5t i5e K s (s.get 59) := den_if hf (by kernel_rfl) K s
theorem i5t_eq : den prog ann 82 (.code i5t :: K) s = den prog ann 82 (.code r17 :: .code .ret :: K) s := den_flat hf (l := [r17, .ret]) (by kernel_rfl) K s
theorem r17_eq : den prog ann 82 (.code r17 :: K) s = mreg prog ann 82 none [] none [] [qF 8 fun s => some (.nilp),qF 9 fun s => some (.int .i64 2)] K s := (den_reg hf _ K s).trans (by kernel_rfl)
theorem i5e_eq : den prog ann 82 (.code i5e :: K) s = den prog ann 82 (K) s := den_flat hf (l := []) (by kernel_rfl) K s
theorem r18_eq : den prog ann 82 (.code r18 :: K) s = mreg prog ann 82 (some [0, 10, 15, 36, 37, 38, 43, 44]) [] none [] [qF 60 fun s => binA prog .add 3 (s.get 44) (.int .i64 1),qC 44 60] K s := (den_reg hf _ K s).trans (by kernel_rfl)
theorem r19_eq : den prog ann 82 (.code r19 :: K) s = mreg prog ann 82 (some [0, 10, 36, 37, 38]) [] none [] [qF 61 fun s => binA prog .add 3 (s.get 38) (.int .i64 1),qC 38 61] K s := (den_reg hf _ K s).trans (by kernel_rfl)
theorem r20_eq : den prog ann 82 (.code r20 :: K) s = mreg prog ann 82 (some [10]) [] none [] [qC 62 10,qC 8 62,qF 9 fun s => some (.int .i64 0)] K s := (den_reg hf _ K s).trans (by kernel_rfl)
theorem ret_eq : den prog ann 82 (.code .ret :: K) s = finM true [fun s => some (s.get 8), fun s => some (s.get 9)] s := (den_ret hf K s).trans (by kernel_rfl)
theorem nil_eq (s : St) : den prog ann 82 [] s = finM true [fun s => some (s.get 8), fun s => some (s.get 9)] s := (den_nil hf s).trans (by kernel_rfl)
theorem inBlock_eq (id : Nat) (K : List Item) (s : St) : den prog ann 82 (.inBlock id :: K) s = den prog ann 82 K s := den_inBlock hf id K s
theorem exit_eq (id : Nat) (K : List Item) (s : St) : den prog ann 82 (.code (.exit id) :: K) s = exitV prog ann 82 (exitTo id K) s := den_exitV hf id K s
theorem call_eq (v0 v1 v2 v3 : AV) (m : Mem) (h : closedL [v0, v1, v2, v3] = true) : denC prog ann 82 [v0, v1, v2, v3] m = (den prog ann 82 [.code b] ⟨[(0, v0), (1, v1), (2, v2), (3, v3)], 63, Mem.empty⟩).bind fun r => some (r.1, m) := (denC_pure hf (b := b) (by kernel_rfl) (by kernel_rfl) (by kernel_rfl) h m).trans (by kernel_rfl)
theorem pure_eq : (ann 82).pure = true := by kernel_rfl
attribute [simp] b_eq r0_eq r1_eq r2_eq i0_eq i0t_eq r3_eq i0e_eq r4_eq k0_eq l0_eq r5_eq i1_eq i1t_eq i1e_eq k1_eq r6_eq r7_eq i2_eq i2t_eq r8_eq i2e_eq r9_eq r10_eq k2_eq l2_eq r11_eq i3_eq i3t_eq i3e_eq k3_eq r12_eq r13_eq k4_eq l4_eq r14_eq i4_eq i4t_eq i4e_eq k5_eq r15_eq r16_eq i5_eq i5t_eq r17_eq i5e_eq r18_eq r19_eq r20_eq ret_eq nil_eq inBlock_eq exit_eq pure_eq
end
end stitch_seams
namespace stitch_threads_meet
noncomputable section
variable (K : List Item) (s : St)
def b : Code := (Try.f87.body).getD .skip
theorem hf : prog.funcs[87]? = some Try.f87 := by kernel_rfl
def r0 := findReg b 0
def r1 := findReg b 1
def r2 := findReg b 2
def k0 := findBlk b 0
def l0 := loopOf k0
def L0 (x0 x1 x2 x9 x10 : AV) (m : Mem) (K : List Item) : Option Res := den prog ann 87 (.code l0 :: .inLoop l0 :: .inBlock 0 :: K) ⟨[(0, x0), (1, x1), (2, x2), (9, x9), (10, x10)], 55, m⟩
def r3 := findReg b 3
def i0 := findCond b 0
def i0t := thenOf i0
def i0e := elseOf i0
def k1 := findBlk b 1
def r4 := findReg b 4
def r5 := findReg b 5
def k2 := findBlk b 2
def l2 := loopOf k2
def L2 (x0 x1 x2 x9 x10 x19 x20 : AV) (m : Mem) (K : List Item) : Option Res := den prog ann 87 (.code l2 :: .inLoop l2 :: .inBlock 2 :: K) ⟨[(0, x0), (1, x1), (2, x2), (9, x9), (10, x10), (19, x19), (20, x20)], 55, m⟩
def r6 := findReg b 6
def i1 := findCond b 1
def i1t := thenOf i1
def i1e := elseOf i1
def k3 := findBlk b 3
def r7 := findReg b 7
def r8 := findReg b 8
def r9 := findReg b 9
def r10 := findReg b 10
def i2 := findCond b 2
def i2t := thenOf i2
def i2e := elseOf i2
def r11 := findReg b 11
def r12 := findReg b 12
def r13 := findReg b 13
theorem b_eq : den prog ann 87 (.code b :: K) s = den prog ann 87 (.code r0 :: .code r1 :: .code r2 :: .code k0 :: .code r13 :: .code .ret :: K) s := den_flat hf (l := [r0, r1, r2, k0, r13, .ret]) (by kernel_rfl) K s
theorem r0_eq : den prog ann 87 (.code r0 :: K) s = mreg prog ann 87 none [] none [] [qF 6 fun s => some (.str []),qF 7 fun s => some (.str []),qF 8 fun s => some (.str [])] K s := (den_reg hf _ K s).trans (by kernel_rfl)
theorem r1_eq : den prog ann 87 (.code r1 :: K) s = mreg prog ann 87 none [] none [] [qF 9 fun s => some (.nils)] K s := (den_reg hf _ K s).trans (by kernel_rfl)
theorem r2_eq : den prog ann 87 (.code r2 :: K) s = mreg prog ann 87 none [] none [] [qF 10 fun s => some (.bool true)] K s := (den_reg hf _ K s).trans (by kernel_rfl)
theorem k0_eq (K : List Item) (t : List (Nat × AV)) (m : Mem) : den prog ann 87 (.code k0 :: K) ⟨t, 55, m⟩ = L0 (get t 0) (get t 1) (get t 2) (get t 9) (get t 10) m K := den_loop_enter hf (b := l0) (id := 3) (l := [0, 1, 2, 9, 10]) (by kernel_rfl) (by kernel_rfl) (by kernel_rfl) K _
theorem l0_eq (K : List Item) (t : List (Nat × AV)) (m : Mem) : den prog ann 87 (.inLoop l0 :: .inBlock 0 :: K) ⟨t, 55, m⟩ = L0 (get t 0) (get t 1) (get t 2) (get t 9) (get t 10) m K := den_loop_again hf (id := 3) (l := [0, 1, 2, 9, 10]) (by kernel_rfl) (by kernel_rfl) (.inBlock 0 :: K) _
theorem L0_eq (x0 x1 x2 x9 x10 : AV) (m : Mem) (K : List Item) : L0 x0 x1 x2 x9 x10 m K = den prog ann 87 (.code r3 :: .code i0 :: .code k1 :: .inLoop l0 :: .inBlock 0 :: K) ⟨[(0, x0), (1, x1), (2, x2), (9, x9), (10, x10)], 55, m⟩ := den_flat hf (l := [r3, i0, k1]) (by kernel_rfl) _ _
theorem r3_eq : den prog ann 87 (.code r3 :: K) s = mreg prog ann 87 (some [0, 1, 2, 9, 10]) [] none [] [qC 15 10] K s := (den_reg hf _ K s).trans (by kernel_rfl)
theorem i0_eq : den prog ann 87 (.code i0 :: K) s = ifV prog ann 87 15 i0t i0e K s (s.get 15) := den_if hf (by kernel_rfl) K s
theorem i0t_eq : den prog ann 87 (.code i0t :: K) s = den prog ann 87 (K) s := den_flat hf (l := []) (by kernel_rfl) K s
theorem i0e_eq : den prog ann 87 (.code i0e :: K) s = den prog ann 87 (.code (.exit 0) :: K) s := den_flat hf (l := [(.exit 0)]) (by kernel_rfl) K s
theorem k1_eq : den prog ann 87 (.code k1 :: K) s = den prog ann 87 (.code r4 :: .code r5 :: .code k2 :: .inBlock 1 :: K) s := den_blk hf (b := blkOf k1) (l := [r4, r5, k2]) (by kernel_rfl) (by kernel_rfl) K s
theorem r4_eq : den prog ann 87 (.code r4 :: K) s = mreg prog ann 87 none [] none [] [qF 10 fun s => some (.bool false)] K s := (den_reg hf _ K s).trans (by kernel_rfl)
theorem r5_eq : den prog ann 87 (.code r5 :: K) s = mreg prog ann 87 none [] none [] [qC 16 0,qA 17 nilA 16,qA 18 (fieldA 0) 17,qA 19 (loadF false 1) 18,qF 20 fun s => some (.int .i64 0)] K s := (den_reg hf _ K s).trans (by kernel_rfl)
theorem k2_eq (K : List Item) (t : List (Nat × AV)) (m : Mem) : den prog ann 87 (.code k2 :: K) ⟨t, 55, m⟩ = L2 (get t 0) (get t 1) (get t 2) (get t 9) (get t 10) (get t 19) (get t 20) m K := den_loop_enter hf (b := l2) (id := 6) (l := [0, 1, 2, 9, 10, 19, 20]) (by kernel_rfl) (by kernel_rfl) (by kernel_rfl) K _
theorem l2_eq (K : List Item) (t : List (Nat × AV)) (m : Mem) : den prog ann 87 (.inLoop l2 :: .inBlock 2 :: K) ⟨t, 55, m⟩ = L2 (get t 0) (get t 1) (get t 2) (get t 9) (get t 10) (get t 19) (get t 20) m K := den_loop_again hf (id := 6) (l := [0, 1, 2, 9, 10, 19, 20]) (by kernel_rfl) (by kernel_rfl) (.inBlock 2 :: K) _
theorem L2_eq (x0 x1 x2 x9 x10 x19 x20 : AV) (m : Mem) (K : List Item) : L2 x0 x1 x2 x9 x10 x19 x20 m K = den prog ann 87 (.code r6 :: .code i1 :: .code k3 :: .code r12 :: .inLoop l2 :: .inBlock 2 :: K) ⟨[(0, x0), (1, x1), (2, x2), (9, x9), (10, x10), (19, x19), (20, x20)], 55, m⟩ := den_flat hf (l := [r6, i1, k3, r12]) (by kernel_rfl) _ _
theorem r6_eq : den prog ann 87 (.code r6 :: K) s = mreg prog ann 87 (some [0, 1, 2, 9, 10, 19, 20]) [] none [] [qB 21 (binA prog .lss 3) 20 19] K s := (den_reg hf _ K s).trans (by kernel_rfl)
theorem i1_eq : den prog ann 87 (.code i1 :: K) s = ifV prog ann 87 21 i1t i1e K s (s.get 21) := den_if hf (by kernel_rfl) K s
theorem i1t_eq : den prog ann 87 (.code i1t :: K) s = den prog ann 87 (K) s := den_flat hf (l := []) (by kernel_rfl) K s
theorem i1e_eq : den prog ann 87 (.code i1e :: K) s = den prog ann 87 (.code (.exit 2) :: K) s := den_flat hf (l := [(.exit 2)]) (by kernel_rfl) K s
theorem k3_eq : den prog ann 87 (.code k3 :: K) s = den prog ann 87 (.code r7 :: .code r8 :: .code r9 :: .code r10 :: .code i2 :: .inBlock 3 :: K) s := den_blk hf (b := blkOf k3) (l := [r7, r8, r9, r10, i2]) (by kernel_rfl) (by kernel_rfl) K s
theorem r7_eq : den prog ann 87 (.code r7 :: K) s = mreg prog ann 87 none [] none [] [qC 22 20,qC 11 22] K s := (den_reg hf _ K s).trans (by kernel_rfl)
theorem r8_eq : den prog ann 87 (.code r8 :: K) s = mreg prog ann 87 none [] none [] [qC 23 11,qA 24 (convInt .u8) 23,qA 25 (binA prog .add 5 (.int .u8 97)) 24,qC 12 25] K s := (den_reg hf _ K s).trans (by kernel_rfl)
theorem r9_eq : den prog ann 87 (.code r9 :: K) s = mreg prog ann 87 none [] none [] [qC 26 0,qC 27 1,qC 28 12,⟨some 29, none, .c 0 (fun s => (.fn 84 [] [])) fun s => [(s.get 26), (s.get 27), (s.get 28)]⟩,qC 30 0,qC 31 2,qC 32 12,⟨some 33, none, .c 0 (fun s => (.fn 84 [] [])) fun s => [(s.get 30), (s.get 31), (s.get 32)]⟩,qC 13 29,qC 14 33] K s := (den_reg hf _ K s).trans (by kernel_rfl)
theorem r10_eq : den prog ann 87 (.code r10 :: K) s = mreg prog ann 87 none [] none [] [qC 34 13,qF 35 fun s => binA prog .geq 3 (s.get 34) (.int .i64 0),qC 36 35,⟨some 37, some (36, true), .v fun s => some (s.get 14)⟩,⟨some 38, some (36, true), .v fun s => binA prog .geq 3 (s.get 37) (.int .i64 0)⟩,qF 39 fun s => pickA (s.get 36) (s.get 38) (.bool false)] K s := (den_reg hf _ K s).trans (by kernel_rfl)
theorem i2_eq : den prog ann 87 (.code i2 :: K) s = ifV prog ann 87 39 i2t i2e K s (s.get 39) := den_if hf (by kernel_rfl) K s
theorem i2t_eq : den prog ann 87 (.code i2t :: K) s = den prog ann 87 (.code r11 :: K) s := den_flat hf (l := [r11]) (by kernel_rfl) K s
theorem r11_eq : den prog ann 87 (.code r11 :: K) s = mreg prog ann 87 none [] none [] [qC 40 1,qC 41 13,⟨some 42, none, .c 0 (fun s => (.fn 86 [] [])) fun s => [(s.get 40), (s.get 41)]⟩,qC 43 2,qC 44 14,⟨some 45, none, .c 0 (fun s => (.fn 86 [] [])) fun s => [(s.get 43), (s.get 44)]⟩,qC 46 9,qC 47 12,qF 48 fun s => bslF 1 (bslA 1 1 [.int .u8 0] [(0, (s.get 47))]),⟨some 49, none, .w false none fun s => appendA 1 1 s.m (s.get 46) (s.get 48)⟩,qC 1 42,qC 2 45,qC 9 49,qF 10 fun s => some (.bool true)] K s := (den_reg hf _ K s).trans (by kernel_rfl)
theorem i2e_eq : den prog ann 87 (.code i2e :: K) s = den prog ann 87 (K) s := den_flat hf (l := []) (by kernel_rfl) K s
theorem r12_eq : den prog ann 87 (.code r12 :: K) s = mreg prog ann 87 (some [0, 1, 2, 9, 10, 19, 20]) [] none [] [qF 50 fun s => binA prog .add 3 (s.get 20) (.int .i64 1),qC 20 50] K s := (den_reg hf _ K s).trans (by kernel_rfl)
theorem r13_eq : den prog ann 87 (.code r13 :: K) s = mreg prog ann 87 (some [1, 2, 9]) [] none [] [qC 51 9,qF 52 fun s => convStr s.m (s.get 51),qC 53 1,qC 54 2,qC 6 52,qC 7 53,qC 8 54] K s := (den_reg hf _ K s).trans (by kernel_rfl)
theorem ret_eq : den prog ann 87 (.code .ret :: K) s = finM true [fun s => some (s.get 6), fun s => some (s.get 7), fun s => some (s.get 8)] s := (den_ret hf K s).trans (by kernel_rfl)
theorem nil_eq (s : St) : den prog ann 87 [] s = finM true [fun s => some (s.get 6), fun s => some (s.get 7), fun s => some (s.get 8)] s := (den_nil hf s).trans (by kernel_rfl)
theorem inBlock_eq (id : Nat) (K : List Item) (s : St) : den prog ann 87 (.inBlock id :: K) s = den prog ann 87 K s := den_inBlock hf id K s
theorem exit_eq (id : Nat) (K : List Item) (s : St) : den prog ann 87 (.code (.exit id) :: K) s = exitV prog ann 87 (exitTo id K) s := den_exitV hf id K s
theorem call_eq (v0 v1 v2 : AV) (m : Mem) (h : closedL [v0, v1, v2] = true) : denC prog ann 87 [v0, v1, v2] m = (den prog ann 87 [.code b] ⟨[(0, v0), (1, v1), (2, v2)], 55, Mem.empty⟩).bind fun r => some (r.1, m) := (denC_pure hf (b := b) (by kernel_rfl) (by kernel_rfl) (by kernel_rfl) h m).trans (by kernel_rfl)
theorem pure_eq : (ann 87).pure = true := by kernel_rfl
attribute [simp] b_eq r0_eq r1_eq r2_eq k0_eq l0_eq r3_eq i0_eq i0t_eq i0e_eq k1_eq r4_eq r5_eq k2_eq l2_eq r6_eq i1_eq i1t_eq i1e_eq k3_eq r7_eq r8_eq r9_eq r10_eq i2_eq i2t_eq r11_eq i2e_eq r12_eq r13_eq ret_eq nil_eq inBlock_eq exit_eq pure_eq
end
end stitch_threads_meet
end Go.Proofs.Ytdkmepjedjclkaa

/-
  SEAMS IN THE PROGRAM (1): letters, threads, fronts. Conditions: none.
-/
namespace Go.Proofs.Ytdkmepjedjclkaa
open Go.AM
open Go.Proofs.Try (prog)
set_option linter.all false
set_option maxRecDepth 100000
set_option maxHeartbeats 4000000
def W4L (w : List Nat) : Prop := ∀ x ∈ w, x < 4
def strW (w : List Nat) : List UInt8 := w.map fun h => UInt8.ofNat (97 + h)
@[simp] theorem strW_len (w : List Nat) : (strW w).length = w.length := by simp [strW]
@[simp] theorem strW_nil : strW [] = [] := rfl
theorem strW_append (u v : List Nat) : strW (u ++ v) = strW u ++ strW v := by simp [strW]
theorem strW_at {w : List Nat} (h4 : W4L w) {i : Nat} (hi : i < w.length) (k : IntKind) : idxStr (.str (strW w)) (.int k (i : Int)) = some (.int .u8 (97 + (w[i] : Int))) := by
  have h := h4 w[i] (List.getElem_mem hi)
  have e : (strW w)[i]? = some (UInt8.ofNat (97 + w[i])) := by simp [strW, hi]
  have e2 : (UInt8.ofNat (97 + w[i])).toNat = 97 + w[i] := by rw [UInt8.toNat_ofNat']; omega
  simp only [idxStr_str, strW_len, inR_nat, hi, decide_true, cond_true, Int.toNat_natCast, e, Option.map_some, e2]
  rfl
theorem strW_inj : ∀ {u v : List Nat}, W4L u → W4L v → strW u = strW v → u = v
  | [], [], _, _, _ => rfl
  | [], _ :: _, _, _, h => by simp [strW] at h
  | _ :: _, [], _, _, h => by simp [strW] at h
  | a :: u, b :: v, hu, hv, h => by
    simp only [strW, List.map_cons, List.cons.injEq] at h
    have ha := hu a (by simp)
    have hb := hv b (by simp)
    have e := congrArg UInt8.toNat h.1
    simp only [UInt8.toNat_ofNat'] at e
    have : a = b := by omega
    rw [this, strW_inj (u := u) (v := v) (fun x hx => hu x (by simp [hx])) (fun x hx => hv x (by simp [hx])) h.2]
theorem u8_id {v : Int} (h0 : 0 ≤ v) (h1 : v ≤ 255) : IntKind.wrap .u8 v = v := u8w_id h0 h1
theorem str_to {s : List UInt8} {i : Nat} (hi : i ≤ s.length) : sliceStr (.str s) none (some (.int .i64 (i : Int))) = some (.str (s.take i)) := by
  have : (i : Int) ≤ s.length := by omega
  simp [sliceStr, bnds, bnd, hi]
theorem str_from {s : List UInt8} {i : Nat} (hi : i ≤ s.length) : sliceStr (.str s) (some (.int .i64 (i : Int))) none = some (.str (s.drop i)) := by
  have h : (s.drop i).take (s.length - i) = s.drop i := List.take_of_length_le (by simp)
  simp [sliceStr, bnds, bnd, hi, h]
theorem str_part {s : List UInt8} {i j : Nat} (hij : i ≤ j) (hi : j ≤ s.length) : sliceStr (.str s) (some (.int .i64 (i : Int))) (some (.int .i64 (j : Int))) = some (.str ((s.drop i).take (j - i))) := by
  simp [sliceStr, bnds, bnd, hi, hij]
theorem str_cat {a b : List UInt8} (h : a.length + b.length ≤ 4611686018427387904) (t : TypeId) : binA prog .add t (.str a) (.str b) = some (.str (a ++ b)) := by
  simp [binA, strA, h]
def pC (q : Nat × Nat) : List AV := [.int .i64 q.1, .int .i64 q.2]
theorem pC_len (l : List (Nat × Nat)) : ∀ x ∈ l, (pC x).length = 2 := fun _ _ => rfl
def com (p : List (Nat × Nat)) (a b : Nat) : Bool := p.any fun q => (q.1 == a && q.2 == b) || (q.1 == b && q.2 == a)
structure GoodP (p : List (Nat × Nat)) : Prop where
  q : ∀ x ∈ p, x.1 < 4 ∧ x.2 < 4 ∧ x.1 ≠ x.2
  l : p.length ≤ 30
theorem com_symm (p : List (Nat × Nat)) (a b : Nat) : com p a b = com p b a := by
  unfold com
  congr 1
  funext q
  rw [Bool.or_comm]
theorem com_irr {p : List (Nat × Nat)} (h : GoodP p) (a : Nat) : com p a a = false := by
  unfold com
  rw [List.any_eq_false]
  intro q hq
  obtain ⟨_, _, h3⟩ := h.q q hq
  simp
  omega
def bL (f : Nat → Nat → Bool) : List AV := (List.range 36).map fun i => .bool (f (i / 6) (i % 6))
@[simp] theorem bL_len (f : Nat → Nat → Bool) : (bL f).length = 36 := by simp [bL]
theorem bL_at (f : Nat → Nat → Bool) {a b : Nat} (ha : a < 6) (hb : b < 6) : (bL f)[a * 6 + b]? = some (.bool (f a b)) := by
  have h1 : (a * 6 + b) / 6 = a := by omega
  have h2 : (a * 6 + b) % 6 = b := by omega
  simp [bL, List.getElem?_range (show a * 6 + b < 36 by omega), h1, h2]
def setF (f : Nat → Nat → Bool) (a b : Nat) : Nat → Nat → Bool := fun x y => if x = a ∧ y = b then true else f x y
theorem bL_set (f : Nat → Nat → Bool) {a b : Nat} (ha : a < 6) (hb : b < 6) : (bL f).set (a * 6 + b) (.bool true) = bL (setF f a b) := by
  apply List.ext_getElem?
  intro i
  rw [List.getElem?_set]
  by_cases e : a * 6 + b = i
  · subst e
    have h1 : (a * 6 + b) / 6 = a := by omega
    have h2 : (a * 6 + b) % 6 = b := by omega
    rw [if_pos rfl, if_pos (by simp; omega)]
    simp [bL, setF, List.getElem?_range (show a * 6 + b < 36 by omega), h1, h2]
  · rw [if_neg e]
    rcases Nat.lt_or_ge i 36 with hi | hi
    · have : ¬ (i / 6 = a ∧ i % 6 = b) := by omega
      simp [bL, setF, List.getElem?_range hi, this]
    · simp [bL, hi]
def thrV (p : List (Nat × Nat)) : AV := .fptr (.int .i64 4 :: bL (com p))
@[simp] theorem thrV_closed (p : List (Nat × Nat)) : (thrV p).closed = true := rfl
@[simp] theorem thrV_one (p : List (Nat × Nat)) : (thrV p).one = true := rfl
section
variable {p : List (Nat × Nat)}
theorem thr_at {a b : Nat} (ha : a < 6) (hb : b < 6) : ((bL (com p)).drop (a * 6)).drop b = .bool (com p a b) :: (bL (com p)).drop (a * 6 + b + 1) := by
  rw [List.drop_drop]
  obtain ⟨h1, h2⟩ := List.getElem?_eq_some_iff.1 (bL_at (com p) ha hb)
  rw [List.drop_eq_getElem_cons h1, h2]
theorem meets_spec {a b : Nat} (ha : a < 4) (hb : b < 4) (m : Mem) : denC prog ann 88 [thrV p, .int .u8 (97 + (a : Int)), .int .u8 (97 + (b : Int))] m = some (.bool (!com p a b), m) := by
  have w1 : IntKind.wrap .u8 (97 + (a : Int) - 97) = (a : Int) := by rw [u8_id (by omega) (by omega)]; omega
  have w2 : IntKind.wrap .u8 (97 + (b : Int) - 97) = (b : Int) := by rw [u8_id (by omega) (by omega)]; omega
  have ht := thr_at (p := p) (show a < 6 by omega) (show b < 6 by omega)
  simp only [List.drop_drop] at ht
  rw [stitch_threads_meets.call_eq _ _ _ _ (by simp)]
  simp [thrV, w1, w2, ht, show a < 6 by omega, show b < 6 by omega]
  done
def frontI : Option Nat → Int
  | some i => i
  | none => -1
theorem front_loop {w : List Nat} (h4 : W4L w) (hl : w.length < 1000000) {c : Nat} (hc : c < 4) : ∀ (k i : Nat) (m : Mem), i + k = w.length →
    stitch_threads_front.L0 (thrV p) (.str (strW w)) (.int .u8 (97 + (c : Int))) (.int .i64 w.length) (.int .i64 i) m [.code stitch_threads_front.r9, .code .ret] = some (.int .i64 (match frontN (com p) (w.drop i) c with
      | some j => ((i + j : Nat) : Int)
      | none => -1), Mem.empty) := by
  intro k
  induction k with
  | zero =>
    intro i m h1
    have e : i = w.length := by omega
    rw [stitch_threads_front.L0_eq]
    simp [e, frontN]
    done
  | succ k ih =>
    intro i m h1
    have hi : i < w.length := by omega
    have hx := h4 w[i] (List.getElem_mem hi)
    have hat := strW_at h4 hi .i64
    have hw : IntKind.wrap .i64 ((i : Int) + 1) = (i : Int) + 1 := wrap_id (by omega) (by omega)
    have hm := fun m => meets_spec (p := p) hx hc m
    have hst := fun m => ih (i + 1) m (by omega)
    rw [List.drop_eq_getElem_cons hi, frontN]
    generalize w[i] = x at *
    simp only [Int.natCast_add, Int.cast_ofNat_Int] at hst
    rw [stitch_threads_front.L0_eq]
    by_cases q : x = c
    · subst q
      simp [hi, hat]
      done
    · have q' : ¬ (x : Int) = (c : Int) := by omega
      cases hcm : com p x c with
      | false =>
        simp only [hcm, Bool.not_false] at hm
        simp [hi, hat, q, q', hm]
        done
      | true =>
        simp only [hcm, Bool.not_true] at hm
        have e2 : (match (frontN (com p) (w.drop (i + 1)) c).map (· + 1) with
          | some j => ((i + j : Nat) : Int)
          | none => -1) = (match frontN (com p) (w.drop (i + 1)) c with
          | some j => ((i + 1 + j : Nat) : Int)
          | none => -1) := by
          cases frontN (com p) (w.drop (i + 1)) c with
          | none => rfl
          | some j =>
            show ((i + (j + 1) : Nat) : Int) = ((i + 1 + j : Nat) : Int)
            congr 1
            omega
        simp only [if_neg q, if_true, e2]
        simp [hi, hat, q, q', hm, hw, hst]
        done
theorem front_spec {w : List Nat} (h4 : W4L w) (hl : w.length < 1000000) {c : Nat} (hc : c < 4) (m : Mem) : denC prog ann 84 [thrV p, .str (strW w), .int .u8 (97 + (c : Int))] m = some (.int .i64 (frontI (frontN (com p) w c)), m) := by
  have lp := fun m => front_loop (p := p) h4 hl hc w.length 0 m (by omega)
  simp only [Int.cast_ofNat_Int, List.drop_zero, Nat.zero_add] at lp
  have e : (match frontN (com p) w c with
      | some j => (j : Int)
      | none => -1) = frontI (frontN (com p) w c) := by cases frontN (com p) w c <;> rfl
  rw [e] at lp
  rw [stitch_threads_front.call_eq _ _ _ _ (by simp)]
  simp [lp]
theorem without_spec {w : List Nat} {i : Nat} (hi : i < w.length) (hl : w.length < 1000000) (m : Mem) : denC prog ann 86 [.str (strW w), .int .i64 i] m = some (.str (strW (w.eraseIdx i)), m) := by
  have hw : IntKind.wrap .i64 ((i : Int) + 1) = (i : Int) + 1 := wrap_id (by omega) (by omega)
  have e : strW (w.eraseIdx i) = (strW w).take i ++ (strW w).drop (i + 1) := by
    rw [List.eraseIdx_eq_take_drop_succ, strW_append]; simp [strW, List.map_take, List.map_drop]
  rw [e, stitch_without.call_eq _ _ _ (by simp)]
  have s1 := str_to (s := strW w) (i := i) (by simp; omega)
  have s2 := str_from (s := strW w) (i := i + 1) (by simp; omega)
  have s3 := str_cat (a := (strW w).take i) (b := (strW w).drop (i + 1)) (by simp; omega) 9
  simp only [Int.natCast_add, Int.cast_ofNat_Int] at s2
  simp [hw, s1, s2, s3]
  done
end
end Go.Proofs.Ytdkmepjedjclkaa

/-
  SEAMS IN THE PROGRAM (2): least, meet. Conditions: none.
-/
namespace Go.Proofs.Ytdkmepjedjclkaa
open Go.AM
open Go.Proofs.Try (prog)
set_option linter.all false
set_option maxRecDepth 100000
set_option maxHeartbeats 4000000
def byC (w : List Nat) : List AV := w.map fun h : Nat => AV.int .u8 (97 + (h : Int))
@[simp] theorem byC_len (w : List Nat) : (byC w).length = w.length := by simp [byC]
theorem byC_bytes : ∀ {w : List Nat}, W4L w → bytesOf (byC w) = some (strW w)
  | [], _ => rfl
  | a :: w, h => by
    have ih := byC_bytes (w := w) fun x hx => h x (by simp [hx])
    have e : (97 + (a : Int)).toNat = 97 + a := by omega
    simp only [byC, List.map_cons, bytesOf] at ih ⊢
    rw [ih, Option.bind_some, e]
    rfl
def outB (oid : Nat) (acc : List Nat) : AV := if acc = [] then .nils else .sl oid 1 0 acc.length acc.length
def OutB (m : Mem) (oid : Nat) (acc : List Nat) : Prop := acc ≠ [] → m.h oid = some (.cells (byC acc)) ∧ oid < m.nx
theorem outB_str {m : Mem} {oid : Nat} {acc : List Nat} (h4 : W4L acc) (h : OutB m oid acc) : convStr m (outB oid acc) = some (.str (strW acc)) := by
  unfold outB
  by_cases q : acc = []
  · subst q; simp [convStr]
  · obtain ⟨h1, _⟩ := h q
    have ht : (byC acc).take acc.length = byC acc := List.take_of_length_le (by simp)
    rw [if_neg q]
    simp [convStr, h1, ht, byC_bytes h4]
theorem outB_app {m : Mem} {oid : Nat} {acc : List Nat} (h : OutB m oid acc) (hl : acc.length < 1000000) (c : Nat) : ∃ oid' m', appendA 1 1 m (outB oid acc) (.fsl true 1 [.int .u8 (97 + (c : Int))]) = some (outB oid' (acc ++ [c]), m') ∧ OutB m' oid' (acc ++ [c]) := by
  unfold outB
  by_cases q : acc = []
  · subst q
    refine ⟨m.nx, m.new (.cells [.int .u8 (97 + (c : Int))]), ?_, fun _ => ⟨by simp [byC, Mem.new], by simp [Mem.new]⟩⟩
    rw [if_pos rfl, if_neg (by simp)]
    simp [appendA, srcA, room]
  · obtain ⟨h1, h2⟩ := h q
    refine ⟨oid, m.set oid (some (.cells (byC acc ++ [.int .u8 (97 + (c : Int))]))), ?_, fun _ => ⟨by simp [byC, Mem.set], h2⟩⟩
    rw [if_neg q, if_neg (by simp)]
    simp [appendA, srcA, room, h1, show acc.length + 1 ≤ 4611686018427387904 by omega, show acc.length ≤ 4611686018427387903 by omega, show acc.length + 1 ≤ 70368744177664 by omega]
    done
section
variable {p : List (Nat × Nat)}
theorem erase4 {w : List Nat} (h : W4L w) (i : Nat) : W4L (w.eraseIdx i) := fun x hx => h x (List.mem_of_mem_eraseIdx hx)
theorem conv8 {a : Nat} (ha : a < 4) : IntKind.wrap .u8 (a : Int) = a ∧ IntKind.wrap .u8 (97 + (a : Int)) = 97 + (a : Int) := ⟨u8_id (by omega) (by omega), u8_id (by omega) (by omega)⟩
theorem eqv_cons {cm : Nat → Nat → Bool} {u v : List Nat} (c : Nat) (h : eqv cm u v) : eqv cm (c :: u) (c :: v) := eqv.append (eqv.refl cm [c]) h
theorem least_pick {w : List Nat} (h4 : W4L w) (hl : w.length < 1000000) {acc : List Nat} (hal : acc.length < 1000000) (Kc : List Item) : ∀ (k a oid : Nat) (m : Mem), a + k = 4 → OutB m oid acc → (∃ c, a ≤ c ∧ c < 4 ∧ frontN (com p) w c ≠ none) →
    ∃ c i oid' m', c < 4 ∧ frontN (com p) w c = some i ∧ OutB m' oid' (acc ++ [c]) ∧
      stitch_threads_least.L2 (thrV p) (.str (strW w)) (outB oid acc) (.int .i64 4) (.int .i64 a) m (.inBlock 1 :: .inLoop stitch_threads_least.l0 :: .inBlock 0 :: Kc) = stitch_threads_least.L0 (thrV p) (.str (strW (w.eraseIdx i))) (outB oid' (acc ++ [c])) m' Kc := by
  intro k
  induction k with
  | zero => rintro a oid m h1 _ ⟨c, h2, h3, _⟩; omega
  | succ k ih =>
    intro a oid m h1 ho hex
    have ha : a < 4 := by omega
    have ha' : (a : Int) < 4 := by omega
    obtain ⟨c1, c2⟩ := conv8 ha
    have hf := fun m => front_spec (p := p) h4 hl ha m
    cases q : frontN (com p) w a with
    | some i =>
      rw [q] at hf
      have hi := front_lt q
      have hw := fun m => without_spec hi hl m
      obtain ⟨oid', m', g1, g2⟩ := outB_app ho hal a
      refine ⟨a, i, oid', m', ha, q, g2, ?_⟩
      simp at g1
      rw [stitch_threads_least.L2_eq]
      simp [frontI, ha', c1, c2, hf, hw, g1]
      done
    | none =>
      rw [q] at hf
      obtain ⟨c, e1, e2, e3⟩ := hex
      have hne : c ≠ a := by rintro rfl; exact e3 q
      have hw : IntKind.wrap .i64 ((a : Int) + 1) = (a : Int) + 1 := wrap_id (by omega) (by omega)
      obtain ⟨c', i, oid', m', g1, g2, g3, g4⟩ := ih (a + 1) oid m (by omega) ho ⟨c, by omega, e2, e3⟩
      refine ⟨c', i, oid', m', g1, g2, g3, ?_⟩
      simp only [Int.natCast_add, Int.cast_ofNat_Int] at g4
      rw [← g4, stitch_threads_least.L2_eq]
      simp [frontI, ha', c1, c2, hf, hw]
      done
theorem least_loop (g : GoodP p) : ∀ (n : Nat) (w acc : List Nat) (oid : Nat) (m : Mem), w.length = n → W4L w → W4L acc → acc.length + w.length < 1000000 → OutB m oid acc →
    ∃ l, eqv (com p) l w ∧ W4L l ∧ stitch_threads_least.L0 (thrV p) (.str (strW w)) (outB oid acc) m [.code stitch_threads_least.r11, .code .ret] = some (.str (strW (acc ++ l)), Mem.empty) := by
  intro n
  induction n with
  | zero =>
    intro w acc oid m h1 h4 ha4 hl ho
    have : w = [] := by simpa using h1
    subst this
    refine ⟨[], eqv.refl _ _, fun x hx => (by cases hx), ?_⟩
    have hs := outB_str ha4 ho
    rw [stitch_threads_least.L0_eq]
    simp [hs]
    done
  | succ n ih =>
    intro w acc oid m h1 h4 ha4 hl ho
    have hne : w ≠ [] := by rintro rfl; simp at h1
    have hsn : ¬ strW w = [] := by
      intro e
      have := congrArg List.length e
      simp at this
      exact hne this
    have hex : ∃ c, 0 ≤ c ∧ c < 4 ∧ frontN (com p) w c ≠ none := by
      cases w with
      | nil => exact absurd rfl hne
      | cons x w => exact ⟨x, Nat.zero_le _, h4 x (by simp), by simp [frontN]⟩
    obtain ⟨c, i, oid', m', g1, g2, g3, g4⟩ := least_pick (p := p) h4 (by omega) (acc := acc) (by omega) [.code stitch_threads_least.r11, .code .ret] 4 0 oid m (by omega) ho hex
    have hlt := front_lt g2
    obtain ⟨l, l1, l2, l3⟩ := ih (w.eraseIdx i) (acc ++ [c]) oid' m' (by rw [List.length_eraseIdx_of_lt hlt]; omega) (erase4 h4 i) (fun x hx => by
      rcases List.mem_append.1 hx with hx | hx
      · exact ha4 x hx
      · simp at hx; omega) (by rw [List.length_eraseIdx_of_lt hlt]; simp; omega) g3
    refine ⟨c :: l, (eqv_cons c l1).trans (front_eqv (com_symm p) g2), fun x hx => ?_, ?_⟩
    · rcases List.mem_cons.1 hx with rfl | hx
      · exact g1
      · exact l2 x hx
    · have e : acc ++ c :: l = (acc ++ [c]) ++ l := by simp
      simp only [Int.cast_ofNat_Int] at g4
      rw [e, ← l3, ← g4, stitch_threads_least.L0_eq]
      simp [hsn, thrV]
      done
theorem least_spec (g : GoodP p) {w : List Nat} (h4 : W4L w) (hl : w.length < 100000) : ∃ l, eqv (com p) l w ∧ W4L l ∧ ∀ m, denC prog ann 85 [thrV p, .str (strW w)] m = some (.str (strW l), m) := by
  obtain ⟨l, l1, l2, l3⟩ := least_loop g w.length w [] 0 Mem.empty rfl h4 (fun x hx => by cases hx) (by simp; omega) (fun h => absurd rfl h)
  refine ⟨l, l1, l2, fun m => ?_⟩
  rw [show outB 0 [] = .nils by simp [outB], List.nil_append] at l3
  rw [stitch_threads_least.call_eq _ _ _ (by simp)]
  simp [l3]
  done
end
end Go.Proofs.Ytdkmepjedjclkaa

/-
  SEAMS IN THE PROGRAM (3): meet. Conditions: none.
-/
namespace Go.Proofs.Ytdkmepjedjclkaa
open Go.AM
open Go.Proofs.Try (prog)
set_option linter.all false
set_option maxRecDepth 100000
set_option maxHeartbeats 4000000
section
variable {p : List (Nat × Nat)}
structure MInv (cm : Nat → Nat → Bool) (u0 v0 acc u v : List Nat) : Prop where
  l : ∀ x y, cm x y = false → pj x y acc ++ pj x y u = pj x y u0
  r : ∀ x y, cm x y = false → pj x y acc ++ pj x y v = pj x y v0
  u4 : W4L u
  v4 : W4L v
  a4 : W4L acc
  n : acc.length + u.length = u0.length
  k : acc.length + v.length = v0.length
theorem MInv.take {u0 v0 acc u v : List Nat} (h : MInv (com p) u0 v0 acc u v) {c i j : Nat} (hc : c < 4) (hi : frontN (com p) u c = some i) (hj : frontN (com p) v c = some j) : MInv (com p) u0 v0 (acc ++ [c]) (u.eraseIdx i) (v.eraseIdx j) := by
  have step : ∀ {w : List Nat} {i : Nat}, frontN (com p) w c = some i → ∀ x y, com p x y = false → pj x y (acc ++ [c]) ++ pj x y (w.eraseIdx i) = pj x y acc ++ pj x y w := by
    intro w i hi x y k
    rw [← front_eqv (com_symm p) hi x y k, pj_append, List.append_assoc, ← pj_append]
    rfl
  have li := front_lt hi
  have lj := front_lt hj
  refine ⟨fun x y k => (step hi x y k).trans (h.l x y k), fun x y k => (step hj x y k).trans (h.r x y k), erase4 h.u4 i, erase4 h.v4 j, fun x hx => ?_, ?_, ?_⟩
  · rcases List.mem_append.1 hx with hx | hx
    · exact h.a4 x hx
    · simp at hx; omega
  · have := h.n; rw [List.length_eraseIdx_of_lt li]; simp; omega
  · have := h.k; rw [List.length_eraseIdx_of_lt lj]; simp; omega
theorem meet_inner {u0 v0 : List Nat} (hu0 : u0.length < 100000) (hv0 : v0.length < 100000) (Kc : List Item) : ∀ (k a : Nat) (u v acc : List Nat) (oid : Nat) (more : Bool) (m : Mem), a + k = 4 → MInv (com p) u0 v0 acc u v → OutB m oid acc →
    ∃ u' v' acc' oid' more' m', MInv (com p) u0 v0 acc' u' v' ∧ OutB m' oid' acc' ∧ (more' = false → more = false ∧ ∀ c, a ≤ c → c < 4 → frontN (com p) u' c = none ∨ frontN (com p) v' c = none) ∧ u'.length ≤ u.length ∧ (more = false → more' = true → u'.length < u.length) ∧ (more' = false → u' = u ∧ v' = v) ∧
      stitch_threads_meet.L2 (thrV p) (.str (strW u)) (.str (strW v)) (outB oid acc) (.bool more) (.int .i64 4) (.int .i64 a) m (.inBlock 1 :: .inLoop stitch_threads_meet.l0 :: .inBlock 0 :: Kc) = stitch_threads_meet.L0 (thrV p) (.str (strW u')) (.str (strW v')) (outB oid' acc') (.bool more') m' Kc := by
  intro k
  induction k with
  | zero =>
    intro a u v acc oid more m h1 inv ho
    have e : a = 4 := by omega
    subst e
    refine ⟨u, v, acc, oid, more, m, inv, ho, fun h => ⟨h, fun c h2 h3 => by omega⟩, Nat.le_refl _, (fun h1 h2 => by rw [h1] at h2; cases h2), fun _ => ⟨rfl, rfl⟩, ?_⟩
    rw [stitch_threads_meet.L2_eq]
    simp
    done
  | succ k ih =>
    intro a u v acc oid more m h1 inv ho
    have ha : a < 4 := by omega
    have ha' : (a : Int) < 4 := by omega
    obtain ⟨c1, c2⟩ := conv8 ha
    have hn := inv.n
    have hk := inv.k
    have hu := fun m => front_spec (p := p) inv.u4 (by omega) ha m
    have hv := fun m => front_spec (p := p) inv.v4 (by omega) ha m
    have hw : IntKind.wrap .i64 ((a : Int) + 1) = (a : Int) + 1 := wrap_id (by omega) (by omega)
    cases q1 : frontN (com p) u a with
    | none =>
      rw [q1] at hu
      obtain ⟨u', v', acc', oid', more', m', g1, g2, g3, g4, g5, g6, g7⟩ := ih (a + 1) u v acc oid more m (by omega) inv ho
      refine ⟨u', v', acc', oid', more', m', g1, g2, fun h => ⟨(g3 h).1, fun c h2 h3 => ?_⟩, g4, g5, g6, ?_⟩
      · by_cases e : c = a
        · subst e; left; rw [(g6 h).1]; exact q1
        · exact (g3 h).2 c (by omega) h3
      · simp only [Int.natCast_add, Int.cast_ofNat_Int] at g7
        rw [← g7, stitch_threads_meet.L2_eq]
        simp [frontI, ha', c1, c2, hu, hv, hw]
        done
    | some i =>
      rw [q1] at hu
      have li := front_lt q1
      cases q2 : frontN (com p) v a with
      | none =>
        rw [q2] at hv
        obtain ⟨u', v', acc', oid', more', m', g1, g2, g3, g4, g5, g6, g7⟩ := ih (a + 1) u v acc oid more m (by omega) inv ho
        refine ⟨u', v', acc', oid', more', m', g1, g2, fun h => ⟨(g3 h).1, fun c h2 h3 => ?_⟩, g4, g5, g6, ?_⟩
        · by_cases e : c = a
          · subst e; right; rw [(g6 h).2]; exact q2
          · exact (g3 h).2 c (by omega) h3
        · simp only [Int.natCast_add, Int.cast_ofNat_Int] at g7
          rw [← g7, stitch_threads_meet.L2_eq]
          simp [frontI, ha', c1, c2, hu, hv, hw]
          done
      | some j =>
        rw [q2] at hv
        have lj := front_lt q2
        obtain ⟨oid1, m1, b1, b2⟩ := outB_app ho (by omega) a
        have wu := fun m => without_spec li (by omega) m
        have wv := fun m => without_spec lj (by omega) m
        obtain ⟨u', v', acc', oid', more', m', g1, g2, g3, g4, g5, g6, g7⟩ := ih (a + 1) (u.eraseIdx i) (v.eraseIdx j) (acc ++ [a]) oid1 true m1 (by omega) (inv.take ha q1 q2) b2
        have le := List.length_eraseIdx_of_lt li
        refine ⟨u', v', acc', oid', more', m', g1, g2, fun h => (by have := (g3 h).1; cases this), by omega, fun _ _ => by omega, fun h => (by have := (g3 h).1; cases this), ?_⟩
        simp only [Int.natCast_add, Int.cast_ofNat_Int] at g7
        simp at b1
        rw [← g7, stitch_threads_meet.L2_eq]
        simp [frontI, ha', c1, c2, hu, hv, hw, wu, wv, b1]
        done
theorem meet_loop {u0 v0 : List Nat} (hu0 : u0.length < 100000) (hv0 : v0.length < 100000) : ∀ (n : Nat) (u v acc : List Nat) (oid : Nat) (m : Mem), u.length = n → MInv (com p) u0 v0 acc u v → OutB m oid acc →
    ∃ out a b, MeetP (com p) u0 v0 out a b ∧ W4L out ∧ W4L a ∧ W4L b ∧ out.length + a.length = u0.length ∧ out.length + b.length = v0.length ∧ stitch_threads_meet.L0 (thrV p) (.str (strW u)) (.str (strW v)) (outB oid acc) (.bool true) m [.code stitch_threads_meet.r13, .code .ret] = some (.tup [.str (strW out), .str (strW a), .str (strW b)], Mem.empty) := by
  intro n
  induction n using Nat.strongRecOn with
  | ind n ih =>
    intro u v acc oid m hn inv ho
    obtain ⟨u', v', acc', oid', more', m', g1, g2, g3, g4, g5, g6, g7⟩ := meet_inner hu0 hv0 [.code stitch_threads_meet.r13, .code .ret] 4 0 u v acc oid false m (by omega) inv ho
    have e1 : stitch_threads_meet.L0 (thrV p) (.str (strW u)) (.str (strW v)) (outB oid acc) (.bool true) m [.code stitch_threads_meet.r13, .code .ret] = stitch_threads_meet.L0 (thrV p) (.str (strW u')) (.str (strW v')) (outB oid' acc') (.bool more') m' [.code stitch_threads_meet.r13, .code .ret] := by
      simp only [Int.cast_ofNat_Int] at g7
      rw [← g7, stitch_threads_meet.L0_eq]
      simp [thrV]
      done
    rw [e1]
    cases more' with
    | true => exact ih u'.length (by have := g5 rfl rfl; omega) u' v' acc' oid' m' rfl g1 g2
    | false =>
      have hs := outB_str g1.a4 g2
      refine ⟨acc', u', v', ⟨g1.l, g1.r, fun c hc => (g3 rfl).2 c (Nat.zero_le _) hc⟩, g1.a4, g1.u4, g1.v4, g1.n, g1.k, ?_⟩
      rw [stitch_threads_meet.L0_eq]
      simp [hs]
      done
theorem meet87_spec {u v : List Nat} (hu4 : W4L u) (hv4 : W4L v) (hu : u.length < 100000) (hv : v.length < 100000) : ∃ out a b, MeetP (com p) u v out a b ∧ W4L out ∧ W4L a ∧ W4L b ∧ out.length + a.length = u.length ∧ out.length + b.length = v.length ∧
    ∀ m, denC prog ann 87 [thrV p, .str (strW u), .str (strW v)] m = some (.tup [.str (strW out), .str (strW a), .str (strW b)], m) := by
  obtain ⟨out, a, b, h1, h2, h3, h4, h5, h6, h7⟩ := meet_loop (p := p) hu hv u.length u v [] 0 Mem.empty rfl ⟨fun x y _ => rfl, fun x y _ => rfl, hu4, hv4, (fun x hx => by cases hx), by simp, by simp⟩ (fun h => absurd rfl h)
  refine ⟨out, a, b, h1, h2, h3, h4, h5, h6, fun m => ?_⟩
  rw [show outB 0 [] = .nils by simp [outB]] at h7
  rw [stitch_threads_meet.call_eq _ _ _ _ (by simp)]
  simp [h7]
  done
end
end Go.Proofs.Ytdkmepjedjclkaa

/-
  SEAMS IN THE PROGRAM (4): free letters, threads, seams that are read, counts. Conditions: none.
-/
namespace Go.Proofs.Ytdkmepjedjclkaa
open Go.AM
open Go.Proofs.Try (prog)
set_option linter.all false
set_option maxRecDepth 100000
set_option maxHeartbeats 4000000
section
variable {p : List (Nat × Nat)}
theorem load_pair {l : List (Nat × Nat)} {i : Nat} (hi : i < l.length) : flatC pC (l.drop i) = .int .i64 l[i].1 :: .int .i64 l[i].2 :: flatC pC (l.drop (i + 1)) := by
  rw [flatC_at (List.getElem?_eq_getElem hi)]; rfl
theorem free_loop {v : AV} (hv : IsSl pC v p) (g : GoodP p) {a b : Nat} (ha : a < 4) (hb : b < 4) : ∀ (k i : Nat) (m : Mem), i + k = p.length →
    r03_Free.L0 v (.int .u8 (97 + (a : Int))) (.int .u8 (97 + (b : Int))) (.int .i64 i) m [.code r03_Free.r7, .code .ret] = some (.bool (com (p.drop i) a b), Mem.empty) := by
  have hpl := g.l
  intro k
  induction k with
  | zero =>
    intro i m h1
    have e : i = p.length := by omega
    rw [r03_Free.L0_eq]
    simp [e, hv.len, com]
    done
  | succ k ih =>
    intro i m h1
    have hi : i < p.length := by omega
    obtain ⟨q1, q2, q3⟩ := g.q p[i] (List.getElem_mem hi)
    have hidx := hv.idx (pC_len p) hi .i64
    have hld := load_pair hi
    have hw : IntKind.wrap .i64 ((i : Int) + 1) = (i : Int) + 1 := wrap_id (by omega) (by omega)
    have hst := fun m => ih (i + 1) m (by omega)
    have hcm : com (p.drop i) a b = ((p[i].1 == a && p[i].2 == b || p[i].1 == b && p[i].2 == a) || com (p.drop (i + 1)) a b) := by
      rw [List.drop_eq_getElem_cons hi, com, List.any_cons]; rfl
    rw [hcm]
    generalize p[i] = q at *
    obtain ⟨A, B⟩ := q
    simp only at q1 q2 q3 hld ⊢
    have w1 : IntKind.wrap .i64 (97 + (A : Int)) = 97 + (A : Int) := wrap_id (by omega) (by omega)
    have w2 : IntKind.wrap .i64 (97 + (B : Int)) = 97 + (B : Int) := wrap_id (by omega) (by omega)
    have w3 : IntKind.wrap .u8 (97 + (A : Int)) = 97 + (A : Int) := u8_id (by omega) (by omega)
    have w4 : IntKind.wrap .u8 (97 + (B : Int)) = 97 + (B : Int) := u8_id (by omega) (by omega)
    have w5 : IntKind.wrap .i64 (97 + (a : Int)) = 97 + (a : Int) := wrap_id (by omega) (by omega)
    have w6 : IntKind.wrap .i64 (97 + (b : Int)) = 97 + (b : Int) := wrap_id (by omega) (by omega)
    have w7 : IntKind.wrap .u8 (97 + (a : Int)) = 97 + (a : Int) := u8_id (by omega) (by omega)
    have w8 : IntKind.wrap .u8 (97 + (b : Int)) = 97 + (b : Int) := u8_id (by omega) (by omega)
    simp only [Int.natCast_add, Int.cast_ofNat_Int] at hst
    rw [r03_Free.L0_eq]
    by_cases e5 : a = b
    · subst e5
      by_cases e1 : A = a
      · subst e1
        have e2 : ¬ B = A := fun h => q3 h.symm
        simp [hv.len, hi, hidx, hld, w1, w2, w3, w4, w5, w6, w7, w8, hw, hst, Int.ofNat_inj, q3, e2, beq_dec]
        done
      · by_cases e2 : B = a
        · subst e2
          simp [hv.len, hi, hidx, hld, w1, w2, w3, w4, w5, w6, w7, w8, hw, hst, Int.ofNat_inj, q3, e1, beq_dec]
          done
        · simp [hv.len, hi, hidx, hld, w1, w2, w3, w4, w5, w6, w7, w8, hw, hst, Int.ofNat_inj, q3, e1, e2, beq_dec]
          done
    · have e5' : ¬ b = a := fun h => e5 h.symm
      by_cases e1 : A = a
      · subst e1
        by_cases e2 : B = b
        · subst e2
          simp [hv.len, hi, hidx, hld, w1, w2, w3, w4, w5, w6, w7, w8, hw, hst, Int.ofNat_inj, e5, e5', beq_dec]
          done
        · have e3 : ¬ B = A := fun h => q3 h.symm
          simp [hv.len, hi, hidx, hld, w1, w2, w3, w4, w5, w6, w7, w8, hw, hst, Int.ofNat_inj, e5, e5', e2, e3, beq_dec]
          done
      · by_cases e2 : A = b
        · subst e2
          by_cases e3 : B = a
          · subst e3
            simp [hv.len, hi, hidx, hld, w1, w2, w3, w4, w5, w6, w7, w8, hw, hst, Int.ofNat_inj, e5, e5', beq_dec]
            done
          · simp [hv.len, hi, hidx, hld, w1, w2, w3, w4, w5, w6, w7, w8, hw, hst, Int.ofNat_inj, e5, e5', e1, e3, beq_dec]
            done
        · simp [hv.len, hi, hidx, hld, w1, w2, w3, w4, w5, w6, w7, w8, hw, hst, Int.ofNat_inj, e1, e2, beq_dec]
          done
theorem free_spec {v : AV} (hv : IsSl pC v p) (g : GoodP p) {a b : Nat} (ha : a < 4) (hb : b < 4) (m : Mem) : denC prog ann 50 [v, .int .u8 (97 + (a : Int)), .int .u8 (97 + (b : Int))] m = some (.bool (com p a b), m) := by
  have lp := fun m => free_loop hv g ha hb p.length 0 m (by omega)
  simp only [Int.cast_ofNat_Int, List.drop_zero] at lp
  rw [r03_Free.call_eq _ _ _ _ (by simp [hv.closed])]
  simp [lp]
theorem thr_set (f : Nat → Nat → Bool) {a b : Nat} (ha : a < 6) (hb : b < 6) : (AV.int .i64 4 :: bL f).set (1 + a * 6 + b) (.bool true) = .int .i64 4 :: bL (setF f a b) := by
  rw [show 1 + a * 6 + b = (a * 6 + b) + 1 by omega, List.set_cons_succ, bL_set f ha hb]
theorem com_snoc (l : List (Nat × Nat)) (A B : Nat) : setF (setF (com l) A B) B A = com (l ++ [(A, B)]) := by
  funext x y
  unfold setF com
  rw [List.any_append]
  by_cases e1 : x = B ∧ y = A
  · obtain ⟨rfl, rfl⟩ := e1; simp
  · rw [if_neg e1]
    by_cases e2 : x = A ∧ y = B
    · obtain ⟨rfl, rfl⟩ := e2; simp
    · rw [if_neg e2]
      have : (A == x && B == y || A == y && B == x) = false := by
        rw [Bool.eq_false_iff]
        intro h
        simp at h
        rcases h with ⟨h1, h2⟩ | ⟨h1, h2⟩
        · exact e2 ⟨h1.symm, h2.symm⟩
        · exact e1 ⟨h2.symm, h1.symm⟩
      simp [this]
theorem bL_deep (f : Nat → Nat → Bool) (h : Nat → Option AObj) (d : Nat) : mapO (deep h (d + 1)) (bL f) = some (bL f) := by
  refine mapO_fix fun a ha => ?_
  simp only [bL, List.mem_map] at ha
  obtain ⟨i, _, rfl⟩ := ha
  rfl
theorem sread_loop {v : AV} (hv : IsSl pC v p) (g : GoodP p) {tid : Nat} : ∀ (k i : Nat) (m : Mem), i + k = p.length → m.h tid = some (.cells (.int .i64 4 :: bL (com (p.take i)))) → tid < m.nx →
    stitch_read.L0 (.int .i64 4) (.ptr tid 0 37) v (.int .i64 p.length) (.int .i64 i) m [.code stitch_read.r11, .code .ret] = some (.tup [thrV p, .bool true], Mem.empty) := by
  have hpl := g.l
  intro k
  induction k with
  | zero =>
    intro i m h1 hm hn
    have e : i = p.length := by omega
    rw [e, List.take_length] at hm
    have hd := fun d => bL_deep (com p) m.h d
    rw [stitch_read.L0_eq]
    simp [e, hm, hd, thrV]
    done
  | succ k ih =>
    intro i m h1 hm hn
    have hi : i < p.length := by omega
    obtain ⟨q1, q2, q3⟩ := g.q p[i] (List.getElem_mem hi)
    have hidx := hv.idx (pC_len p) hi .i64
    have hld := load_pair hi
    have hw : IntKind.wrap .i64 ((i : Int) + 1) = (i : Int) + 1 := wrap_id (by omega) (by omega)
    have hst := ih (i + 1) ⟨upd (upd m.h m.nx none) tid (some (.cells (.int .i64 4 :: bL (com (p.take (i + 1)))))), m.nx + 1 + 20⟩ (by omega) (by simp) (by show tid < m.nx + 1 + 20; omega)
    have htk : p.take (i + 1) = p.take i ++ [(p[i].1, p[i].2)] := by rw [List.take_add_one, List.getElem?_eq_getElem hi]; rfl
    rw [htk] at hst
    generalize p[i] = q at *
    obtain ⟨A, B⟩ := q
    simp only at q1 q2 q3 hld hst
    have s1 := thr_set (com (p.take i)) (show A < 6 by omega) (show B < 6 by omega)
    have s2 := thr_set (setF (com (p.take i)) A B) (show B < 6 by omega) (show A < 6 by omega)
    rw [com_snoc] at s2
    have hne : ¬ (A : Int) = (B : Int) := by omega
    have n1 : (tid == m.nx) = false := beq_eq_false_iff_ne.2 (by omega)
    simp only [Int.natCast_add, Int.cast_ofNat_Int] at hst
    rw [← hst, stitch_read.L0_eq]
    have f1 : ¬ min (A : Int) (B : Int) < 0 := by omega
    have f2 : ¬ (4 : Int) ≤ max (A : Int) (B : Int) := by omega
    simp [hi, hidx, hld, hm, hw, n1, hne, q1, q2, s1, s2, f1, f2, show A < 6 by omega, show B < 6 by omega, show 1 + A * 6 + B < 37 by omega, show 1 + B * 6 + A < 37 by omega]
    done
end
end Go.Proofs.Ytdkmepjedjclkaa

/-
  SEAMS IN THE PROGRAM (5): what is read, counts. Conditions: none.
-/
namespace Go.Proofs.Ytdkmepjedjclkaa
open Go.AM
open Go.Proofs.Try (prog)
set_option linter.all false
set_option maxRecDepth 100000
set_option maxHeartbeats 4000000
section
variable {p : List (Nat × Nat)}
theorem bL_none : bL (com []) = [.bool false, .bool false, .bool false, .bool false, .bool false, .bool false, .bool false, .bool false, .bool false, .bool false, .bool false, .bool false, .bool false, .bool false, .bool false, .bool false, .bool false, .bool false, .bool false, .bool false, .bool false, .bool false, .bool false, .bool false, .bool false, .bool false, .bool false, .bool false, .bool false, .bool false, .bool false, .bool false, .bool false, .bool false, .bool false, .bool false] := rfl
theorem sread_spec {v : AV} (hv : IsSl pC v p) (g : GoodP p) (m : Mem) : denC prog ann 99 [.int .i64 4, v] m = some (.tup [thrV p, .bool true], m) := by
  have hpl := g.l
  have lp := fun (m : Mem) (a : m.h 0 = some (.cells (.int .i64 4 :: bL (com [])))) (b : 0 < m.nx) => sread_loop hv g (tid := 0) p.length 0 m (by omega) (by rw [List.take_zero]; exact a) b
  rw [bL_none] at lp
  simp only [Int.cast_ofNat_Int] at lp
  rw [stitch_read.call_eq _ _ _ (by simp [hv.closed])]
  simp [hv.len, show ¬ (30 : Int) < p.length by omega, lp]
  done
def sC (w : List Nat) : List AV := [.str (strW w)]
theorem sC_len (l : List (List Nat)) : ∀ x ∈ l, (sC x).length = 1 := fun _ _ => rfl
theorem load_seam {l : List (List Nat)} {i : Nat} (hi : i < l.length) : flatC sC (l.drop i) = .str (strW l[i]) :: flatC sC (l.drop (i + 1)) := by
  rw [flatC_at (List.getElem?_eq_getElem hi)]; rfl
theorem seams_short {v : AV} {ws : List (List Nat)} (hv : IsSl sC v ws) (hl : ws.length < 1000) {most : Int} (hm : ∀ w ∈ ws, (w.length : Int) ≤ most) (Kc : List Item) : ∀ (k i : Nat) (m : Mem), i + k = ws.length →
    ∃ m', stitch_seams.L0 (.int .i64 4) (.int .i64 most) v (thrV p) v (.int .i64 ws.length) (.int .i64 i) m Kc = stitch_seams.L0 (.int .i64 4) (.int .i64 most) v (thrV p) v (.int .i64 ws.length) (.int .i64 ws.length) m' Kc := by
  intro k
  induction k with
  | zero =>
    intro i m h1
    have e : i = ws.length := by omega
    exact ⟨m, by rw [e]⟩
  | succ k ih =>
    intro i m h1
    have hi : i < ws.length := by omega
    have hidx := hv.idx (sC_len ws) hi .i64
    have hld := load_seam hi
    have hle := hm ws[i] (List.getElem_mem hi)
    have hw : IntKind.wrap .i64 ((i : Int) + 1) = (i : Int) + 1 := wrap_id (by omega) (by omega)
    obtain ⟨m', e⟩ := ih (i + 1) m (by omega)
    refine ⟨m', ?_⟩
    generalize ws[i] = w at *
    simp only [Int.natCast_add, Int.cast_ofNat_Int] at e
    rw [← e, stitch_seams.L0_eq]
    simp [hi, hidx, hld, hw, show ¬ most < (w.length : Int) by omega]
    done
theorem seams_letters {v : AV} {ws : List (List Nat)} {w : List Nat} (h4 : W4L w) (hl : w.length < 100000) {i : Nat} (Kc : List Item) : ∀ (k j : Nat) (m : Mem), j + k = w.length →
    ∃ m', stitch_seams.L4 (.int .i64 4) (thrV p) (.str (strW w)) v (.int .i64 ws.length) (.int .i64 i) (.int .i64 w.length) (.int .i64 j) m Kc = stitch_seams.L4 (.int .i64 4) (thrV p) (.str (strW w)) v (.int .i64 ws.length) (.int .i64 i) (.int .i64 w.length) (.int .i64 w.length) m' Kc := by
  intro k
  induction k with
  | zero =>
    intro j m h1
    have e : j = w.length := by omega
    exact ⟨m, by rw [e]⟩
  | succ k ih =>
    intro j m h1
    have hj : j < w.length := by omega
    have hx := h4 w[j] (List.getElem_mem hj)
    have hat := strW_at h4 hj .i64
    have hw : IntKind.wrap .i64 ((j : Int) + 1) = (j : Int) + 1 := wrap_id (by omega) (by omega)
    obtain ⟨m', e⟩ := ih (j + 1) m (by omega)
    refine ⟨m', ?_⟩
    generalize w[j] = x at *
    have w1 : IntKind.wrap .u8 4 = 4 := by decide
    have w2 : IntKind.wrap .u8 101 = 101 := by decide
    simp only [Int.natCast_add, Int.cast_ofNat_Int] at e
    rw [← e, stitch_seams.L4_eq]
    simp [hj, hat, hw, w1, w2, show ¬ (97 + (x : Int)) < 97 by omega, show ¬ (101 : Int) ≤ 97 + (x : Int) by omega]
    done
theorem seams_all {v : AV} {ws : List (List Nat)} (hv : IsSl sC v ws) (hl : ws.length < 1000) (h4 : ∀ w ∈ ws, W4L w) (hw5 : ∀ w ∈ ws, w.length < 100000) : ∀ (k i : Nat) (m : Mem), i + k = ws.length →
    stitch_seams.L2 (.int .i64 4) (thrV p) v (.int .i64 ws.length) (.int .i64 i) m [.code stitch_seams.r20, .code .ret] = some (.tup [thrV p, .int .i64 0], Mem.empty) := by
  intro k
  induction k with
  | zero =>
    intro i m h1
    have e : i = ws.length := by omega
    rw [stitch_seams.L2_eq]
    simp [e, thrV]
    done
  | succ k ih =>
    intro i m h1
    have hi : i < ws.length := by omega
    have hidx := hv.idx (sC_len ws) hi .i64
    have hld := load_seam hi
    have hw : IntKind.wrap .i64 ((i : Int) + 1) = (i : Int) + 1 := wrap_id (by omega) (by omega)
    have g4 := h4 ws[i] (List.getElem_mem hi)
    have g5 := hw5 ws[i] (List.getElem_mem hi)
    have hst := fun m => ih (i + 1) m (by omega)
    simp only [Int.natCast_add, Int.cast_ofNat_Int] at hst
    generalize ws[i] = w at *
    obtain ⟨m', e⟩ := seams_letters (p := p) (v := v) (ws := ws) g4 g5 (i := i) (.inBlock 3 :: .code stitch_seams.r19 :: .inLoop stitch_seams.l2 :: .inBlock 2 :: [.code stitch_seams.r20, .code .ret]) w.length 0 m (by omega)
    simp only [Int.cast_ofNat_Int] at e
    rw [stitch_seams.L2_eq]
    simp [hi, hidx, hld, e]
    rw [stitch_seams.L4_eq]
    simp [hw, hst]
    done
theorem seams_spec {v sv : AV} {ws : List (List Nat)} (hp : IsSl pC v p) (g : GoodP p) (hv : IsSl sC sv ws) (hl : ws.length < 1000) (h4 : ∀ w ∈ ws, W4L w) {most : Int} (hm0 : most < 100000) (hm : ∀ w ∈ ws, (w.length : Int) ≤ most) (m : Mem) :
    denC prog ann 82 [.int .i64 4, v, .int .i64 most, sv] m = some (.tup [thrV p, .int .i64 0], m) := by
  have hr := fun m => sread_spec hp g m
  obtain ⟨m', e⟩ := seams_short (p := p) hv hl hm [.code stitch_seams.r10, .code stitch_seams.k2, .code stitch_seams.r20, .code .ret] ws.length 0 Mem.empty (by omega)
  have fin := fun m => seams_all (p := p) hv hl h4 (fun w hw => by have := hm w hw; omega) ws.length 0 m (by omega)
  simp only [Int.cast_ofNat_Int] at e fin
  rw [stitch_seams.call_eq _ _ _ _ _ (by simp [hp.closed, hv.closed])]
  simp [hr, hp.closed, hv.len, e]
  rw [stitch_seams.L0_eq]
  simp [hv.len, fin]
  done
theorem counts_loop {w : List Nat} (h4 : W4L w) (hl : w.length < 1000) : ∀ (k i : Nat) (m : Mem), i + k = w.length → m.h 0 = some (.cells (ints (cntW 4 (w.take i).reverse))) →
    top_counts.L0 (.str (strW w)) (.sl 0 1 0 4 4) (.int .i64 i) m [.code top_counts.r7, .code .ret] = some (.fsl false 4 (ints (cntW 4 w.reverse)), Mem.empty) := by
  intro k
  induction k with
  | zero =>
    intro i m h1 hm
    have e : i = w.length := by omega
    rw [e, List.take_length] at hm
    have hcl : (cntW 4 w.reverse).length = 4 := cntW_len _ _
    have htk : (cntW 4 w.reverse).take 4 = cntW 4 w.reverse := List.take_of_length_le (by omega)
    rw [top_counts.L0_eq]
    simp [e, hm, hcl, htk]
    done
  | succ k ih =>
    intro i m h1 hm
    have hi : i < w.length := by omega
    have hx := h4 w[i] (List.getElem_mem hi)
    have hat := strW_at h4 hi .i64
    have hw : IntKind.wrap .i64 ((i : Int) + 1) = (i : Int) + 1 := wrap_id (by omega) (by omega)
    have htk : (w.take (i + 1)).reverse = w[i] :: (w.take i).reverse := by
      rw [List.take_add_one, List.getElem?_eq_getElem hi]; simp
    have hst := ih (i + 1) ⟨upd m.h 0 (some (.cells (ints (cntW 4 (w.take (i + 1)).reverse)))), m.nx⟩ (by omega) (by simp)
    rw [htk, cntW] at hst
    have h4r : W4L (w.take i).reverse := fun x hx => h4 x (List.mem_of_mem_take (List.mem_reverse.1 hx))
    have hcl : (cntW 4 (w.take i).reverse).length = 4 := cntW_len _ _
    have hnth : nth (cntW 4 (w.take i).reverse) w[i] = ((w.take i).reverse.count w[i] : Int) := nth_cnt h4r _
    have hcle : (w.take i).reverse.count w[i] ≤ w.length := Nat.le_trans List.count_le_length (by simp; omega)
    generalize w[i] = x at *
    generalize cntW 4 (w.take i).reverse = c at *
    have w1 : IntKind.wrap .u8 (97 + (x : Int) - 97) = (x : Int) := by rw [u8_id (by omega) (by omega)]; omega
    have w2 : IntKind.wrap .i64 (nth c x + 1) = nth c x + 1 := wrap_id (by omega) (by omega)
    have hget : (ints c)[x]? = some (.int .i64 (nth c x)) := ints_nth (by omega)
    have hset : c.set x (nth c x + 1) = bump c x := rfl
    simp only [Int.natCast_add, Int.cast_ofNat_Int] at hst
    rw [← hst, top_counts.L0_eq]
    simp [hi, hat, hw, w1, w2, hm, hcl, hx, hget, hset, show (97 : Int) ≤ 97 + (x : Int) by omega, show 97 + (x : Int) ≤ 100 by omega]
    done
theorem counts_spec {w : List Nat} (h4 : W4L w) (hl : w.length < 1000) (m : Mem) : denC prog ann 52 [.str (strW w)] m = some (.fsl false 4 (ints (cntW 4 w)), m) := by
  have lp := fun (m : Mem) (a : m.h 0 = some (.cells [.int .i64 0, .int .i64 0, .int .i64 0, .int .i64 0])) => counts_loop h4 hl w.length 0 m (by omega) (by rw [a]; rfl)
  have e : cntW 4 w.reverse = cntW 4 w := cnt_perm (fun x hx => h4 x (List.mem_reverse.1 hx)) h4 fun x => List.count_reverse
  rw [e] at lp
  simp only [Int.cast_ofNat_Int] at lp
  rw [top_counts.call_eq _ _ (by simp)]
  simp [lp]
  done
end
end Go.Proofs.Ytdkmepjedjclkaa
