/-
  BODIES OF FUNCTIONS OF THE PROGRAM AS SMALL OPERATIONS (written by gen.py; checked by the kernel against the program). Conditions: none.
-/
import Derived.Test.YtdkmepjedjclkaaKAmH
import Derived.Test.YtdkmepjedjclkaaKAmG
import Derived.Test.YtdkmepjedjclkaaK00
set_option linter.all false
namespace Go.Proofs.Ytdkmepjedjclkaa
open Go.AM
open Go.Proofs.Try (prog)
set_option maxRecDepth 100000
set_option linter.all false
namespace watch_join
noncomputable section
variable (K : List Item) (s : St)
def b : Code := (Try.f91.body).getD .skip
theorem hf : prog.funcs[91]? = some Try.f91 := by kernel_rfl
def r0 := findReg b 0
def r1 := findReg b 1
def k0 := findBlk b 0
def l0 := loopOf k0
def L0 (x2 x3 x4 x6 : AV) (m : Mem) (K : List Item) : Option Res := den prog ann 91 (.code l0 :: .inLoop l0 :: .inBlock 0 :: K) ⟨[(2, x2), (3, x3), (4, x4), (6, x6)], 20, m⟩
def r2 := findReg b 2
def i0 := findCond b 0
def i0t := thenOf i0
def i0e := elseOf i0
def k1 := findBlk b 1
def r3 := findReg b 3
def r4 := findReg b 4
def r5 := findReg b 5
def r6 := findReg b 6
theorem b_eq : den prog ann 91 (.code b :: K) s = den prog ann 91 (.code r0 :: .code r1 :: .code k0 :: .code r6 :: .code .ret :: K) s := den_flat hf (l := [r0, r1, k0, r6, .ret]) (by kernel_rfl) K s
theorem r0_eq : den prog ann 91 (.code r0 :: K) s = mreg prog ann 91 none [] none [] [⟨some 2, none, .w false none fun s => newPtr s.m (AV.cells (s.get 0))⟩,qA 3 frozenPtr 1,⟨some 4, none, .w false none fun s => newPtr s.m [.int .i64 0, .int .i64 0, .int .i64 0, .int .i64 0]⟩] K s := (den_reg hf _ K s).trans (by kernel_rfl)
theorem r1_eq : den prog ann 91 (.code r1 :: K) s = mreg prog ann 91 none [] none [] [qF 6 fun s => some (.int .i64 0)] K s := (den_reg hf _ K s).trans (by kernel_rfl)
theorem k0_eq (K : List Item) (t : List (Nat × AV)) (m : Mem) : den prog ann 91 (.code k0 :: K) ⟨t, 20, m⟩ = L0 (get t 2) (get t 3) (get t 4) (get t 6) m K := den_loop_enter hf (b := l0) (id := 2) (l := [2, 3, 4, 6]) (by kernel_rfl) (by kernel_rfl) (by kernel_rfl) K _
theorem l0_eq (K : List Item) (t : List (Nat × AV)) (m : Mem) : den prog ann 91 (.inLoop l0 :: .inBlock 0 :: K) ⟨t, 20, m⟩ = L0 (get t 2) (get t 3) (get t 4) (get t 6) m K := den_loop_again hf (id := 2) (l := [2, 3, 4, 6]) (by kernel_rfl) (by kernel_rfl) (.inBlock 0 :: K) _
theorem L0_eq (x2 x3 x4 x6 : AV) (m : Mem) (K : List Item) : L0 x2 x3 x4 x6 m K = den prog ann 91 (.code r2 :: .code i0 :: .code k1 :: .code r5 :: .inLoop l0 :: .inBlock 0 :: K) ⟨[(2, x2), (3, x3), (4, x4), (6, x6)], 20, m⟩ := den_flat hf (l := [r2, i0, k1, r5]) (by kernel_rfl) _ _
theorem r2_eq : den prog ann 91 (.code r2 :: K) s = mreg prog ann 91 (some [2, 3, 4, 6]) [] none [] [qF 7 fun s => binA prog .lss 3 (s.get 6) (.int .i64 4)] K s := (den_reg hf _ K s).trans (by kernel_rfl)
theorem i0_eq : den prog ann 91 (.code i0 :: K) s = ifV prog ann 91 7 i0t i0e K s (s.get 7) := den_if hf (by kernel_rfl) K s
theorem i0t_eq : den prog ann 91 (.code i0t :: K) s = den prog ann 91 (K) s := den_flat hf (l := []) (by kernel_rfl) K s
theorem i0e_eq : den prog ann 91 (.code i0e :: K) s = den prog ann 91 (.code (.exit 0) :: K) s := den_flat hf (l := [(.exit 0)]) (by kernel_rfl) K s
theorem k1_eq : den prog ann 91 (.code k1 :: K) s = den prog ann 91 (.code r3 :: .code r4 :: .inBlock 1 :: K) s := den_blk hf (b := blkOf k1) (l := [r3, r4]) (by kernel_rfl) (by kernel_rfl) K s
theorem r3_eq : den prog ann 91 (.code r3 :: K) s = mreg prog ann 91 none [] none [] [qC 8 6,qC 5 8] K s := (den_reg hf _ K s).trans (by kernel_rfl)
theorem r4_draw : drawOk (fun g => (ann g).pure) (modeOf (ann 91) (idOf r4)) (frzOf (ann 91) (idOf r4)) (opsOf r4) = true := drawOk_of (an := [0, 0, 2, 6, 0, 16, 48, 126, 255, 511]) (by kernel_rfl) (by kernel_rfl)
theorem r4_eq : den prog ann 91 (.code r4 :: K) s = mreg prog ann 91 none [] (some 10) [] [qC 9 5,qC 10 5,qB 11 (idxArr 4 1) 2 10,qF 12 fun s => loadA false 1 s.m (s.get 11),qC 13 5,qB 14 (idxArr 4 1) 3 13,qA 15 (loadF false 1) 14,qF 16 fun s => foldA max2A (s.get 12) [(s.get 15)],qB 17 (idxArr 4 1) 2 9,⟨none, none, .w false (some 9) fun s => stA false 1 s.m (s.get 17) (s.get 16)⟩] K s := (den_regD hf r4_draw K s).trans (by kernel_rfl)
theorem r5_eq : den prog ann 91 (.code r5 :: K) s = mreg prog ann 91 (some [2, 3, 4, 6]) [] none [] [qF 18 fun s => binA prog .add 3 (s.get 6) (.int .i64 1),qC 6 18] K s := (den_reg hf _ K s).trans (by kernel_rfl)
theorem r6_eq : den prog ann 91 (.code r6 :: K) s = mreg prog ann 91 (some [2, 4]) [] none [] [qF 19 fun s => loadA true 4 s.m (s.get 2),⟨none, none, .w false none fun s => stA true 4 s.m (s.get 4) (s.get 19)⟩] K s := (den_reg hf _ K s).trans (by kernel_rfl)
theorem ret_eq : den prog ann 91 (.code .ret :: K) s = finM true [fun s => loadA true 4 s.m (s.get 4)] s := (den_ret hf K s).trans (by kernel_rfl)
theorem nil_eq (s : St) : den prog ann 91 [] s = finM true [fun s => loadA true 4 s.m (s.get 4)] s := (den_nil hf s).trans (by kernel_rfl)
theorem inBlock_eq (id : Nat) (K : List Item) (s : St) : den prog ann 91 (.inBlock id :: K) s = den prog ann 91 K s := den_inBlock hf id K s
theorem exit_eq (id : Nat) (K : List Item) (s : St) : den prog ann 91 (.code (.exit id) :: K) s = exitV prog ann 91 (exitTo id K) s := den_exitV hf id K s
theorem call_eq (v0 v1 : AV) (m : Mem) (h : closedL [v0, v1] = true) : denC prog ann 91 [v0, v1] m = (den prog ann 91 [.code b] ⟨[(0, v0), (1, v1)], 20, Mem.empty⟩).bind fun r => some (r.1, m) := (denC_pure hf (b := b) (by kernel_rfl) (by kernel_rfl) (by kernel_rfl) h m).trans (by kernel_rfl)
theorem pure_eq : (ann 91).pure = true := by kernel_rfl
attribute [simp] b_eq r0_eq r1_eq k0_eq l0_eq r2_eq i0_eq i0t_eq i0e_eq k1_eq r3_eq r4_eq r5_eq r6_eq ret_eq nil_eq inBlock_eq exit_eq pure_eq
end
end watch_join
namespace watch_story_forth
noncomputable section
variable (K : List Item) (s : St)
def b : Code := (Try.f70.body).getD .skip
theorem hf : prog.funcs[70]? = some Try.f70 := by kernel_rfl
def r0 := findReg b 0
def r1 := findReg b 1
def r2 := findReg b 2
def k0 := findBlk b 0
def l0 := loopOf k0
def L0 (x0 x3 x4 x5 x11 x12 : AV) (m : Mem) (K : List Item) : Option Res := den prog ann 70 (.code l0 :: .inLoop l0 :: .inBlock 0 :: K) ⟨[(0, x0), (3, x3), (4, x4), (5, x5), (11, x11), (12, x12)], 35, m⟩
def r3 := findReg b 3
def i0 := findCond b 0
def i0t := thenOf i0
def i0e := elseOf i0
def k1 := findBlk b 1
def r4 := findReg b 4
def r5 := findReg b 5
def i1 := findCond b 1
def i1t := thenOf i1
def i1e := elseOf i1
def r6 := findReg b 6
def r7 := findReg b 7
def r8 := findReg b 8
theorem b_eq : den prog ann 70 (.code b :: K) s = den prog ann 70 (.code r0 :: .code r1 :: .code r2 :: .code k0 :: .code r8 :: .code .ret :: K) s := den_flat hf (l := [r0, r1, r2, k0, r8, .ret]) (by kernel_rfl) K s
theorem r0_eq : den prog ann 70 (.code r0 :: K) s = mreg prog ann 70 none [] none [] [qA 3 frozenPtr 1,⟨some 4, none, .w false none fun s => newPtr s.m [.int .i64 0, .int .i64 0, .int .i64 0, .int .i64 0]⟩] K s := (den_reg hf _ K s).trans (by kernel_rfl)
theorem r1_eq : den prog ann 70 (.code r1 :: K) s = mreg prog ann 70 none [] none [] [qA 7 (loadF true 4) 3,⟨some 5, none, .w false none fun s => newPtr s.m [.int .i64 0, .int .i64 0, .int .i64 0, .int .i64 0]⟩,⟨none, none, .w false none fun s => stA true 4 s.m (s.get 5) (s.get 7)⟩] K s := (den_reg hf _ K s).trans (by kernel_rfl)
theorem r2_eq : den prog ann 70 (.code r2 :: K) s = mreg prog ann 70 none [] none [] [qC 8 0,qA 9 nilA 8,qA 10 (fieldA 0) 9,qA 11 (loadF false 1) 10,qF 12 fun s => some (.int .i64 0)] K s := (den_reg hf _ K s).trans (by kernel_rfl)
theorem k0_eq (K : List Item) (t : List (Nat × AV)) (m : Mem) : den prog ann 70 (.code k0 :: K) ⟨t, 35, m⟩ = L0 (get t 0) (get t 3) (get t 4) (get t 5) (get t 11) (get t 12) m K := den_loop_enter hf (b := l0) (id := 3) (l := [0, 3, 4, 5, 11, 12]) (by kernel_rfl) (by kernel_rfl) (by kernel_rfl) K _
theorem l0_eq (K : List Item) (t : List (Nat × AV)) (m : Mem) : den prog ann 70 (.inLoop l0 :: .inBlock 0 :: K) ⟨t, 35, m⟩ = L0 (get t 0) (get t 3) (get t 4) (get t 5) (get t 11) (get t 12) m K := den_loop_again hf (id := 3) (l := [0, 3, 4, 5, 11, 12]) (by kernel_rfl) (by kernel_rfl) (.inBlock 0 :: K) _
theorem L0_eq (x0 x3 x4 x5 x11 x12 : AV) (m : Mem) (K : List Item) : L0 x0 x3 x4 x5 x11 x12 m K = den prog ann 70 (.code r3 :: .code i0 :: .code k1 :: .code r7 :: .inLoop l0 :: .inBlock 0 :: K) ⟨[(0, x0), (3, x3), (4, x4), (5, x5), (11, x11), (12, x12)], 35, m⟩ := den_flat hf (l := [r3, i0, k1, r7]) (by kernel_rfl) _ _
theorem r3_eq : den prog ann 70 (.code r3 :: K) s = mreg prog ann 70 (some [0, 3, 4, 5, 11, 12]) [] none [] [qB 13 (binA prog .lss 3) 12 11] K s := (den_reg hf _ K s).trans (by kernel_rfl)
theorem i0_eq : den prog ann 70 (.code i0 :: K) s = ifV prog ann 70 13 i0t i0e K s (s.get 13) := den_if hf (by kernel_rfl) K s
theorem i0t_eq : den prog ann 70 (.code i0t :: K) s = den prog ann 70 (K) s := den_flat hf (l := []) (by kernel_rfl) K s
theorem i0e_eq : den prog ann 70 (.code i0e :: K) s = den prog ann 70 (.code (.exit 0) :: K) s := den_flat hf (l := [(.exit 0)]) (by kernel_rfl) K s
theorem k1_eq : den prog ann 70 (.code k1 :: K) s = den prog ann 70 (.code r4 :: .code r5 :: .code i1 :: .inBlock 1 :: K) s := den_blk hf (b := blkOf k1) (l := [r4, r5, i1]) (by kernel_rfl) (by kernel_rfl) K s
theorem r4_eq : den prog ann 70 (.code r4 :: K) s = mreg prog ann 70 none [] none [] [qC 14 12,qC 6 14] K s := (den_reg hf _ K s).trans (by kernel_rfl)
theorem r5_eq : den prog ann 70 (.code r5 :: K) s = mreg prog ann 70 none [] none [] [qC 15 6,qB 16 (idxArr 4 1) 3 15,qA 17 (loadF false 1) 16,qF 18 fun s => binA prog .gtr 3 (s.get 17) (.int .i64 0)] K s := (den_reg hf _ K s).trans (by kernel_rfl)
theorem i1_eq : den prog ann 70 (.code i1 :: K) s = ifV prog ann 70 18 i1t i1e K s (s.get 18) := den_if hf (by kernel_rfl) K s
theorem i1t_eq : den prog ann 70 (.code i1t :: K) s = den prog ann 70 (.code r6 :: K) s := den_flat hf (l := [r6]) (by kernel_rfl) K s
theorem r6_draw : drawOk (fun g => (ann g).pure) (modeOf (ann 70) (idOf r6)) (frzOf (ann 70) (idOf r6)) (opsOf r6) = true := drawOk_of (an := [0, 0, 0, 2, 10, 30, 62, 0, 128, 384, 896, 2046, 4094, 8191, 16383]) (by kernel_rfl) (by kernel_rfl)
theorem r6_eq : den prog ann 70 (.code r6 :: K) s = mreg prog ann 70 none [] (some 15) [] [qF 19 fun s => loadA true 4 s.m (s.get 5),qC 20 0,qC 21 6,qA 22 nilA 20,qA 23 (fieldA 5) 22,qB 24 (idxArr 4 1) 23 21,qA 25 (loadF false 1) 24,qC 26 6,qB 27 (idxArr 4 1) 3 26,qA 28 (loadF false 1) 27,qF 29 fun s => binA prog .sub 3 (s.get 28) (.int .i64 1),qB 30 (idxSl 4) 25 29,qA 31 (loadF true 4) 30,⟨some 32, none, .c 0 (fun s => (.fn 91 [] [])) fun s => [(s.get 19), (s.get 31)]⟩,⟨none, none, .w false (some 14) fun s => stA true 4 s.m (s.get 5) (s.get 32)⟩] K s := (den_regD hf r6_draw K s).trans (by kernel_rfl)
theorem i1e_eq : den prog ann 70 (.code i1e :: K) s = den prog ann 70 (K) s := den_flat hf (l := []) (by kernel_rfl) K s
theorem r7_eq : den prog ann 70 (.code r7 :: K) s = mreg prog ann 70 (some [0, 3, 4, 5, 11, 12]) [] none [] [qF 33 fun s => binA prog .add 3 (s.get 12) (.int .i64 1),qC 12 33] K s := (den_reg hf _ K s).trans (by kernel_rfl)
theorem r8_eq : den prog ann 70 (.code r8 :: K) s = mreg prog ann 70 (some [4, 5]) [] none [] [qF 34 fun s => loadA true 4 s.m (s.get 5),⟨none, none, .w false none fun s => stA true 4 s.m (s.get 4) (s.get 34)⟩] K s := (den_reg hf _ K s).trans (by kernel_rfl)
theorem ret_eq : den prog ann 70 (.code .ret :: K) s = finM true [fun s => loadA true 4 s.m (s.get 4)] s := (den_ret hf K s).trans (by kernel_rfl)
theorem nil_eq (s : St) : den prog ann 70 [] s = finM true [fun s => loadA true 4 s.m (s.get 4)] s := (den_nil hf s).trans (by kernel_rfl)
theorem inBlock_eq (id : Nat) (K : List Item) (s : St) : den prog ann 70 (.inBlock id :: K) s = den prog ann 70 K s := den_inBlock hf id K s
theorem exit_eq (id : Nat) (K : List Item) (s : St) : den prog ann 70 (.code (.exit id) :: K) s = exitV prog ann 70 (exitTo id K) s := den_exitV hf id K s
theorem call_eq (v0 v1 : AV) (m : Mem) (h : closedL [v0, v1] = true) : denC prog ann 70 [v0, v1] m = (den prog ann 70 [.code b] ⟨[(0, v0), (1, v1)], 35, Mem.empty⟩).bind fun r => some (r.1, m) := (denC_pure hf (b := b) (by kernel_rfl) (by kernel_rfl) (by kernel_rfl) h m).trans (by kernel_rfl)
theorem pure_eq : (ann 70).pure = true := by kernel_rfl
attribute [simp] b_eq r0_eq r1_eq r2_eq k0_eq l0_eq r3_eq i0_eq i0t_eq i0e_eq k1_eq r4_eq r5_eq i1_eq i1t_eq r6_eq i1e_eq r7_eq r8_eq ret_eq nil_eq inBlock_eq exit_eq pure_eq
end
end watch_story_forth
namespace watch_story_consistent
noncomputable section
variable (K : List Item) (s : St)
def b : Code := (Try.f72.body).getD .skip
theorem hf : prog.funcs[72]? = some Try.f72 := by kernel_rfl
def r0 := findReg b 0
def r1 := findReg b 1
theorem b_eq : den prog ann 72 (.code b :: K) s = den prog ann 72 (.code r0 :: .code r1 :: .code .ret :: K) s := den_flat hf (l := [r0, r1, .ret]) (by kernel_rfl) K s
theorem r0_eq : den prog ann 72 (.code r0 :: K) s = mreg prog ann 72 none [] none [] [qA 3 frozenPtr 1,qF 4 fun s => some (.bool false)] K s := (den_reg hf _ K s).trans (by kernel_rfl)
theorem r1_draw : drawOk (fun g => (ann g).pure) (modeOf (ann 72) (idOf r1)) (frzOf (ann 72) (idOf r1)) (opsOf r1) = true := drawOk_of (an := [0, 0, 3, 0, 15, 31]) (by kernel_rfl) (by kernel_rfl)
theorem r1_eq : den prog ann 72 (.code r1 :: K) s = mreg prog ann 72 none [] (some 6) [] [qC 5 0,qA 6 (loadF true 4) 3,⟨some 7, none, .c 0 (fun s => (.fn 70 [] [])) fun s => [(s.get 5), (s.get 6)]⟩,qA 8 (loadF true 4) 3,qB 9 (binA prog .eql 99) 7 8,qC 4 9] K s := (den_regD hf r1_draw K s).trans (by kernel_rfl)
theorem ret_eq : den prog ann 72 (.code .ret :: K) s = finM true [fun s => some (s.get 4)] s := (den_ret hf K s).trans (by kernel_rfl)
theorem nil_eq (s : St) : den prog ann 72 [] s = finM true [fun s => some (s.get 4)] s := (den_nil hf s).trans (by kernel_rfl)
theorem inBlock_eq (id : Nat) (K : List Item) (s : St) : den prog ann 72 (.inBlock id :: K) s = den prog ann 72 K s := den_inBlock hf id K s
theorem exit_eq (id : Nat) (K : List Item) (s : St) : den prog ann 72 (.code (.exit id) :: K) s = exitV prog ann 72 (exitTo id K) s := den_exitV hf id K s
theorem call_eq (v0 v1 : AV) (m : Mem) (h : closedL [v0, v1] = true) : denC prog ann 72 [v0, v1] m = (den prog ann 72 [.code b] ⟨[(0, v0), (1, v1)], 10, Mem.empty⟩).bind fun r => some (r.1, m) := (denC_pure hf (b := b) (by kernel_rfl) (by kernel_rfl) (by kernel_rfl) h m).trans (by kernel_rfl)
theorem pure_eq : (ann 72).pure = true := by kernel_rfl
attribute [simp] b_eq r0_eq r1_eq ret_eq nil_eq inBlock_eq exit_eq pure_eq
end
end watch_story_consistent
namespace slices_Min_int
noncomputable section
variable (K : List Item) (s : St)
def b : Code := (Try.f92.body).getD .skip
theorem hf : prog.funcs[92]? = some Try.f92 := by kernel_rfl
def r0 := findReg b 0
def r1 := findReg b 1
def i0 := findCond b 0
def i0t := thenOf i0
def i0e := elseOf i0
def r2 := findReg b 2
def r3 := findReg b 3
def r4 := findReg b 4
def k0 := findBlk b 0
def l0 := loopOf k0
def L0 (x0 x3 x4 : AV) (m : Mem) (K : List Item) : Option Res := den prog ann 92 (.code l0 :: .inLoop l0 :: .inBlock 0 :: K) ⟨[(0, x0), (3, x3), (4, x4)], 25, m⟩
def r5 := findReg b 5
def i1 := findCond b 1
def i1t := thenOf i1
def i1e := elseOf i1
def k1 := findBlk b 1
def r7 := findReg b 7
def r6 := findReg b 6
def r8 := findReg b 8
theorem b_eq : den prog ann 92 (.code b :: K) s = den prog ann 92 (.code r0 :: .code r1 :: .code i0 :: .code r3 :: .code r4 :: .code k0 :: .code r8 :: .code .ret :: K) s := den_flat hf (l := [r0, r1, i0, r3, r4, k0, r8, .ret]) (by kernel_rfl) K s
theorem r0_eq : den prog ann 92 (.code r0 :: K) s = mreg prog ann 92 none [] none [] [qF 2 fun s => some (.int .i64 0)] K s := (den_reg hf _ K s).trans (by kernel_rfl)
theorem r1_eq : den prog ann 92 (.code r1 :: K) s = mreg prog ann 92 none [] none [] [qC 5 0,qA 6 lenSl 5,qF 7 fun s => binA prog .lss 3 (s.get 6) (.int .i64 1)] K s := (den_reg hf _ K s).trans (by kernel_rfl)
theorem i0_eq : den prog ann 92 (.code i0 :: K) s = ifV prog ann 92 7 i0t i0e K s (s.get 7) := den_if hf (by kernel_rfl) K s
theorem i0t_eq : den prog ann 92 (.code i0t :: K) s = den prog ann 92 (.code r2 :: K) s := den_flat hf (l := [r2]) (by kernel_rfl) K s
theorem i0e_eq : den prog ann 92 (.code i0e :: K) s = den prog ann 92 (K) s := den_flat hf (l := []) (by kernel_rfl) K s
theorem r3_eq : den prog ann 92 (.code r3 :: K) s = mreg prog ann 92 (some [0]) [] none [] [qC 9 0,qF 10 fun s => idxSl 1 (s.get 9) (.int .i64 0),qA 11 (loadF false 1) 10,qC 3 11] K s := (den_reg hf _ K s).trans (by kernel_rfl)
theorem r4_eq : den prog ann 92 (.code r4 :: K) s = mreg prog ann 92 none [] none [] [qF 4 fun s => some (.int .i64 1)] K s := (den_reg hf _ K s).trans (by kernel_rfl)
theorem k0_eq (K : List Item) (t : List (Nat × AV)) (m : Mem) : den prog ann 92 (.code k0 :: K) ⟨t, 25, m⟩ = L0 (get t 0) (get t 3) (get t 4) m K := den_loop_enter hf (b := l0) (id := 5) (l := [0, 3, 4]) (by kernel_rfl) (by kernel_rfl) (by kernel_rfl) K _
theorem l0_eq (K : List Item) (t : List (Nat × AV)) (m : Mem) : den prog ann 92 (.inLoop l0 :: .inBlock 0 :: K) ⟨t, 25, m⟩ = L0 (get t 0) (get t 3) (get t 4) m K := den_loop_again hf (id := 5) (l := [0, 3, 4]) (by kernel_rfl) (by kernel_rfl) (.inBlock 0 :: K) _
theorem L0_eq (x0 x3 x4 : AV) (m : Mem) (K : List Item) : L0 x0 x3 x4 m K = den prog ann 92 (.code r5 :: .code i1 :: .code k1 :: .code r6 :: .inLoop l0 :: .inBlock 0 :: K) ⟨[(0, x0), (3, x3), (4, x4)], 25, m⟩ := den_flat hf (l := [r5, i1, k1, r6]) (by kernel_rfl) _ _
theorem r5_eq : den prog ann 92 (.code r5 :: K) s = mreg prog ann 92 (some [0, 3, 4]) [] none [] [qC 12 4,qC 13 0,qA 14 lenSl 13,qB 15 (binA prog .lss 3) 12 14] K s := (den_reg hf _ K s).trans (by kernel_rfl)
theorem i1_eq : den prog ann 92 (.code i1 :: K) s = ifV prog ann 92 15 i1t i1e K s (s.get 15) := den_if hf (by kernel_rfl) K s
theorem i1t_eq : den prog ann 92 (.code i1t :: K) s = den prog ann 92 (K) s := den_flat hf (l := []) (by kernel_rfl) K s
theorem i1e_eq : den prog ann 92 (.code i1e :: K) s = den prog ann 92 (.code (.exit 0) :: K) s := den_flat hf (l := [(.exit 0)]) (by kernel_rfl) K s
theorem k1_eq : den prog ann 92 (.code k1 :: K) s = den prog ann 92 (.code r7 :: .inBlock 1 :: K) s := den_blk hf (b := blkOf k1) (l := [r7]) (by kernel_rfl) (by kernel_rfl) K s
theorem r7_eq : den prog ann 92 (.code r7 :: K) s = mreg prog ann 92 none [] none [] [qC 18 3,qC 19 0,qC 20 4,qB 21 (idxSl 1) 19 20,qA 22 (loadF false 1) 21,qF 23 fun s => foldA min2A (s.get 18) [(s.get 22)],qC 3 23] K s := (den_reg hf _ K s).trans (by kernel_rfl)
theorem r6_eq : den prog ann 92 (.code r6 :: K) s = mreg prog ann 92 (some [0, 3, 4]) [] none [] [qC 16 4,qF 17 fun s => binA prog .add 3 (s.get 16) (.int .i64 1),qC 4 17] K s := (den_reg hf _ K s).trans (by kernel_rfl)
theorem r8_eq : den prog ann 92 (.code r8 :: K) s = mreg prog ann 92 (some [3]) [] none [] [qC 24 3,qC 2 24] K s := (den_reg hf _ K s).trans (by kernel_rfl)
theorem ret_eq : den prog ann 92 (.code .ret :: K) s = finM true [fun s => some (s.get 2)] s := (den_ret hf K s).trans (by kernel_rfl)
theorem nil_eq (s : St) : den prog ann 92 [] s = finM true [fun s => some (s.get 2)] s := (den_nil hf s).trans (by kernel_rfl)
theorem inBlock_eq (id : Nat) (K : List Item) (s : St) : den prog ann 92 (.inBlock id :: K) s = den prog ann 92 K s := den_inBlock hf id K s
theorem exit_eq (id : Nat) (K : List Item) (s : St) : den prog ann 92 (.code (.exit id) :: K) s = exitV prog ann 92 (exitTo id K) s := den_exitV hf id K s
theorem call_eq (v0 : AV) (m : Mem) (h : closedL [v0] = true) : denC prog ann 92 [v0] m = (den prog ann 92 [.code b] ⟨[(0, v0)], 25, Mem.empty⟩).bind fun r => some (r.1, m) := (denC_pure hf (b := b) (by kernel_rfl) (by kernel_rfl) (by kernel_rfl) h m).trans (by kernel_rfl)
theorem pure_eq : (ann 92).pure = true := by kernel_rfl
attribute [simp] b_eq r0_eq r1_eq i0_eq i0t_eq i0e_eq r3_eq r4_eq k0_eq l0_eq r5_eq i1_eq i1t_eq i1e_eq k1_eq r7_eq r6_eq r8_eq ret_eq nil_eq inBlock_eq exit_eq pure_eq
end
end slices_Min_int
namespace slices_Max_int
noncomputable section
variable (K : List Item) (s : St)
def b : Code := (Try.f93.body).getD .skip
theorem hf : prog.funcs[93]? = some Try.f93 := by kernel_rfl
def r0 := findReg b 0
def r1 := findReg b 1
def i0 := findCond b 0
def i0t := thenOf i0
def i0e := elseOf i0
def r2 := findReg b 2
def r3 := findReg b 3
def r4 := findReg b 4
def k0 := findBlk b 0
def l0 := loopOf k0
def L0 (x0 x3 x4 : AV) (m : Mem) (K : List Item) : Option Res := den prog ann 93 (.code l0 :: .inLoop l0 :: .inBlock 0 :: K) ⟨[(0, x0), (3, x3), (4, x4)], 25, m⟩
def r5 := findReg b 5
def i1 := findCond b 1
def i1t := thenOf i1
def i1e := elseOf i1
def k1 := findBlk b 1
def r7 := findReg b 7
def r6 := findReg b 6
def r8 := findReg b 8
theorem b_eq : den prog ann 93 (.code b :: K) s = den prog ann 93 (.code r0 :: .code r1 :: .code i0 :: .code r3 :: .code r4 :: .code k0 :: .code r8 :: .code .ret :: K) s := den_flat hf (l := [r0, r1, i0, r3, r4, k0, r8, .ret]) (by kernel_rfl) K s
theorem r0_eq : den prog ann 93 (.code r0 :: K) s = mreg prog ann 93 none [] none [] [qF 2 fun s => some (.int .i64 0)] K s := (den_reg hf _ K s).trans (by kernel_rfl)
theorem r1_eq : den prog ann 93 (.code r1 :: K) s = mreg prog ann 93 none [] none [] [qC 5 0,qA 6 lenSl 5,qF 7 fun s => binA prog .lss 3 (s.get 6) (.int .i64 1)] K s := (den_reg hf _ K s).trans (by kernel_rfl)
theorem i0_eq : den prog ann 93 (.code i0 :: K) s = ifV prog ann 93 7 i0t i0e K s (s.get 7) := den_if hf (by kernel_rfl) K s
theorem i0t_eq : den prog ann 93 (.code i0t :: K) s = den prog ann 93 (.code r2 :: K) s := den_flat hf (l := [r2]) (by kernel_rfl) K s
theorem i0e_eq : den prog ann 93 (.code i0e :: K) s = den prog ann 93 (K) s := den_flat hf (l := []) (by kernel_rfl) K s
theorem r3_eq : den prog ann 93 (.code r3 :: K) s = mreg prog ann 93 (some [0]) [] none [] [qC 9 0,qF 10 fun s => idxSl 1 (s.get 9) (.int .i64 0),qA 11 (loadF false 1) 10,qC 3 11] K s := (den_reg hf _ K s).trans (by kernel_rfl)
theorem r4_eq : den prog ann 93 (.code r4 :: K) s = mreg prog ann 93 none [] none [] [qF 4 fun s => some (.int .i64 1)] K s := (den_reg hf _ K s).trans (by kernel_rfl)
theorem k0_eq (K : List Item) (t : List (Nat × AV)) (m : Mem) : den prog ann 93 (.code k0 :: K) ⟨t, 25, m⟩ = L0 (get t 0) (get t 3) (get t 4) m K := den_loop_enter hf (b := l0) (id := 5) (l := [0, 3, 4]) (by kernel_rfl) (by kernel_rfl) (by kernel_rfl) K _
theorem l0_eq (K : List Item) (t : List (Nat × AV)) (m : Mem) : den prog ann 93 (.inLoop l0 :: .inBlock 0 :: K) ⟨t, 25, m⟩ = L0 (get t 0) (get t 3) (get t 4) m K := den_loop_again hf (id := 5) (l := [0, 3, 4]) (by kernel_rfl) (by kernel_rfl) (.inBlock 0 :: K) _
theorem L0_eq (x0 x3 x4 : AV) (m : Mem) (K : List Item) : L0 x0 x3 x4 m K = den prog ann 93 (.code r5 :: .code i1 :: .code k1 :: .code r6 :: .inLoop l0 :: .inBlock 0 :: K) ⟨[(0, x0), (3, x3), (4, x4)], 25, m⟩ := den_flat hf (l := [r5, i1, k1, r6]) (by kernel_rfl) _ _
theorem r5_eq : den prog ann 93 (.code r5 :: K) s = mreg prog ann 93 (some [0, 3, 4]) [] none [] [qC 12 4,qC 13 0,qA 14 lenSl 13,qB 15 (binA prog .lss 3) 12 14] K s := (den_reg hf _ K s).trans (by kernel_rfl)
theorem i1_eq : den prog ann 93 (.code i1 :: K) s = ifV prog ann 93 15 i1t i1e K s (s.get 15) := den_if hf (by kernel_rfl) K s
theorem i1t_eq : den prog ann 93 (.code i1t :: K) s = den prog ann 93 (K) s := den_flat hf (l := []) (by kernel_rfl) K s
theorem i1e_eq : den prog ann 93 (.code i1e :: K) s = den prog ann 93 (.code (.exit 0) :: K) s := den_flat hf (l := [(.exit 0)]) (by kernel_rfl) K s
theorem k1_eq : den prog ann 93 (.code k1 :: K) s = den prog ann 93 (.code r7 :: .inBlock 1 :: K) s := den_blk hf (b := blkOf k1) (l := [r7]) (by kernel_rfl) (by kernel_rfl) K s
theorem r7_eq : den prog ann 93 (.code r7 :: K) s = mreg prog ann 93 none [] none [] [qC 18 3,qC 19 0,qC 20 4,qB 21 (idxSl 1) 19 20,qA 22 (loadF false 1) 21,qF 23 fun s => foldA max2A (s.get 18) [(s.get 22)],qC 3 23] K s := (den_reg hf _ K s).trans (by kernel_rfl)
theorem r6_eq : den prog ann 93 (.code r6 :: K) s = mreg prog ann 93 (some [0, 3, 4]) [] none [] [qC 16 4,qF 17 fun s => binA prog .add 3 (s.get 16) (.int .i64 1),qC 4 17] K s := (den_reg hf _ K s).trans (by kernel_rfl)
theorem r8_eq : den prog ann 93 (.code r8 :: K) s = mreg prog ann 93 (some [3]) [] none [] [qC 24 3,qC 2 24] K s := (den_reg hf _ K s).trans (by kernel_rfl)
theorem ret_eq : den prog ann 93 (.code .ret :: K) s = finM true [fun s => some (s.get 2)] s := (den_ret hf K s).trans (by kernel_rfl)
theorem nil_eq (s : St) : den prog ann 93 [] s = finM true [fun s => some (s.get 2)] s := (den_nil hf s).trans (by kernel_rfl)
theorem inBlock_eq (id : Nat) (K : List Item) (s : St) : den prog ann 93 (.inBlock id :: K) s = den prog ann 93 K s := den_inBlock hf id K s
theorem exit_eq (id : Nat) (K : List Item) (s : St) : den prog ann 93 (.code (.exit id) :: K) s = exitV prog ann 93 (exitTo id K) s := den_exitV hf id K s
theorem call_eq (v0 : AV) (m : Mem) (h : closedL [v0] = true) : denC prog ann 93 [v0] m = (den prog ann 93 [.code b] ⟨[(0, v0)], 25, Mem.empty⟩).bind fun r => some (r.1, m) := (denC_pure hf (b := b) (by kernel_rfl) (by kernel_rfl) (by kernel_rfl) h m).trans (by kernel_rfl)
theorem pure_eq : (ann 93).pure = true := by kernel_rfl
attribute [simp] b_eq r0_eq r1_eq i0_eq i0t_eq i0e_eq r3_eq r4_eq k0_eq l0_eq r5_eq i1_eq i1t_eq i1e_eq k1_eq r7_eq r6_eq r8_eq ret_eq nil_eq inBlock_eq exit_eq pure_eq
end
end slices_Max_int
namespace slices_Index_cut
noncomputable section
variable (K : List Item) (s : St)
def b : Code := (Try.f81.body).getD .skip
theorem hf : prog.funcs[81]? = some Try.f81 := by kernel_rfl
def r0 := findReg b 0
def r1 := findReg b 1
def k0 := findBlk b 0
def l0 := loopOf k0
def L0 (x0 x3 x7 x8 : AV) (m : Mem) (K : List Item) : Option Res := den prog ann 81 (.code l0 :: .inLoop l0 :: .inBlock 0 :: K) ⟨[(0, x0), (3, x3), (7, x7), (8, x8)], 19, m⟩
def r2 := findReg b 2
def i0 := findCond b 0
def i0t := thenOf i0
def i0e := elseOf i0
def k1 := findBlk b 1
def r3 := findReg b 3
def r4 := findReg b 4
def i1 := findCond b 1
def i1t := thenOf i1
def i1e := elseOf i1
def r5 := findReg b 5
def r6 := findReg b 6
def r7 := findReg b 7
theorem b_eq : den prog ann 81 (.code b :: K) s = den prog ann 81 (.code r0 :: .code r1 :: .code k0 :: .code r7 :: .code .ret :: K) s := den_flat hf (l := [r0, r1, k0, r7, .ret]) (by kernel_rfl) K s
theorem r0_eq : den prog ann 81 (.code r0 :: K) s = mreg prog ann 81 none [] none [] [qA 3 frozenPtr 1,qF 4 fun s => some (.int .i64 0)] K s := (den_reg hf _ K s).trans (by kernel_rfl)
theorem r1_eq : den prog ann 81 (.code r1 :: K) s = mreg prog ann 81 none [] none [] [qC 6 0,qA 7 lenSl 6,qF 8 fun s => some (.int .i64 0)] K s := (den_reg hf _ K s).trans (by kernel_rfl)
theorem k0_eq (K : List Item) (t : List (Nat × AV)) (m : Mem) : den prog ann 81 (.code k0 :: K) ⟨t, 19, m⟩ = L0 (get t 0) (get t 3) (get t 7) (get t 8) m K := den_loop_enter hf (b := l0) (id := 2) (l := [0, 3, 7, 8]) (by kernel_rfl) (by kernel_rfl) (by kernel_rfl) K _
theorem l0_eq (K : List Item) (t : List (Nat × AV)) (m : Mem) : den prog ann 81 (.inLoop l0 :: .inBlock 0 :: K) ⟨t, 19, m⟩ = L0 (get t 0) (get t 3) (get t 7) (get t 8) m K := den_loop_again hf (id := 2) (l := [0, 3, 7, 8]) (by kernel_rfl) (by kernel_rfl) (.inBlock 0 :: K) _
theorem L0_eq (x0 x3 x7 x8 : AV) (m : Mem) (K : List Item) : L0 x0 x3 x7 x8 m K = den prog ann 81 (.code r2 :: .code i0 :: .code k1 :: .code r6 :: .inLoop l0 :: .inBlock 0 :: K) ⟨[(0, x0), (3, x3), (7, x7), (8, x8)], 19, m⟩ := den_flat hf (l := [r2, i0, k1, r6]) (by kernel_rfl) _ _
theorem r2_eq : den prog ann 81 (.code r2 :: K) s = mreg prog ann 81 (some [0, 3, 7, 8]) [] none [] [qB 9 (binA prog .lss 3) 8 7] K s := (den_reg hf _ K s).trans (by kernel_rfl)
theorem i0_eq : den prog ann 81 (.code i0 :: K) s = ifV prog ann 81 9 i0t i0e K s (s.get 9) := den_if hf (by kernel_rfl) K s
theorem i0t_eq : den prog ann 81 (.code i0t :: K) s = den prog ann 81 (K) s := den_flat hf (l := []) (by kernel_rfl) K s
theorem i0e_eq : den prog ann 81 (.code i0e :: K) s = den prog ann 81 (.code (.exit 0) :: K) s := den_flat hf (l := [(.exit 0)]) (by kernel_rfl) K s
theorem k1_eq : den prog ann 81 (.code k1 :: K) s = den prog ann 81 (.code r3 :: .code r4 :: .code i1 :: .inBlock 1 :: K) s := den_blk hf (b := blkOf k1) (l := [r3, r4, i1]) (by kernel_rfl) (by kernel_rfl) K s
theorem r3_eq : den prog ann 81 (.code r3 :: K) s = mreg prog ann 81 none [] none [] [qC 10 8,qC 5 10] K s := (den_reg hf _ K s).trans (by kernel_rfl)
theorem r4_draw : drawOk (fun g => (ann g).pure) (modeOf (ann 81) (idOf r4)) (frzOf (ann 81) (idOf r4)) (opsOf r4) = true := drawOk_of (an := [0, 0, 0, 6, 14, 31]) (by kernel_rfl) (by kernel_rfl)
theorem r4_eq : den prog ann 81 (.code r4 :: K) s = mreg prog ann 81 none [] (some 6) [] [qA 11 (loadF true 4) 3,qC 12 0,qC 13 5,qB 14 (idxSl 4) 12 13,qA 15 (loadF true 4) 14,qB 16 (binA prog .eql 99) 11 15] K s := (den_regD hf r4_draw K s).trans (by kernel_rfl)
theorem i1_eq : den prog ann 81 (.code i1 :: K) s = ifV prog ann 81 16 i1t i1e K s (s.get 16) := den_if hf (by kernel_rfl) K s
theorem i1t_eq : den prog ann 81 (.code i1t :: K) s = den prog ann 81 (.code r5 :: .code .ret :: K) s := den_flat hf (l := [r5, .ret]) (by kernel_rfl) K s
theorem r5_eq : den prog ann 81 (.code r5 :: K) s = mreg prog ann 81 none [] none [] [qC 17 5,qC 4 17] K s := (den_reg hf _ K s).trans (by kernel_rfl)
theorem i1e_eq : den prog ann 81 (.code i1e :: K) s = den prog ann 81 (K) s := den_flat hf (l := []) (by kernel_rfl) K s
theorem r6_eq : den prog ann 81 (.code r6 :: K) s = mreg prog ann 81 (some [0, 3, 7, 8]) [] none [] [qF 18 fun s => binA prog .add 3 (s.get 8) (.int .i64 1),qC 8 18] K s := (den_reg hf _ K s).trans (by kernel_rfl)
theorem r7_eq : den prog ann 81 (.code r7 :: K) s = mreg prog ann 81 (some []) [] none [] [qF 4 fun s => some (.int .i64 (-1))] K s := (den_reg hf _ K s).trans (by kernel_rfl)
theorem ret_eq : den prog ann 81 (.code .ret :: K) s = finM true [fun s => some (s.get 4)] s := (den_ret hf K s).trans (by kernel_rfl)
theorem nil_eq (s : St) : den prog ann 81 [] s = finM true [fun s => some (s.get 4)] s := (den_nil hf s).trans (by kernel_rfl)
theorem inBlock_eq (id : Nat) (K : List Item) (s : St) : den prog ann 81 (.inBlock id :: K) s = den prog ann 81 K s := den_inBlock hf id K s
theorem exit_eq (id : Nat) (K : List Item) (s : St) : den prog ann 81 (.code (.exit id) :: K) s = exitV prog ann 81 (exitTo id K) s := den_exitV hf id K s
theorem call_eq (v0 v1 : AV) (m : Mem) (h : closedL [v0, v1] = true) : denC prog ann 81 [v0, v1] m = (den prog ann 81 [.code b] ⟨[(0, v0), (1, v1)], 19, Mem.empty⟩).bind fun r => some (r.1, m) := (denC_pure hf (b := b) (by kernel_rfl) (by kernel_rfl) (by kernel_rfl) h m).trans (by kernel_rfl)
theorem pure_eq : (ann 81).pure = true := by kernel_rfl
attribute [simp] b_eq r0_eq r1_eq k0_eq l0_eq r2_eq i0_eq i0t_eq i0e_eq k1_eq r3_eq r4_eq i1_eq i1t_eq r5_eq i1e_eq r6_eq r7_eq ret_eq nil_eq inBlock_eq exit_eq pure_eq
end
end slices_Index_cut
namespace slices_Contains_cut
noncomputable section
variable (K : List Item) (s : St)
def b : Code := (Try.f96.body).getD .skip
theorem hf : prog.funcs[96]? = some Try.f96 := by kernel_rfl
def r0 := findReg b 0
def r1 := findReg b 1
theorem b_eq : den prog ann 96 (.code b :: K) s = den prog ann 96 (.code r0 :: .code r1 :: .code .ret :: K) s := den_flat hf (l := [r0, r1, .ret]) (by kernel_rfl) K s
theorem r0_eq : den prog ann 96 (.code r0 :: K) s = mreg prog ann 96 none [] none [] [qA 3 frozenPtr 1,qF 4 fun s => some (.bool false)] K s := (den_reg hf _ K s).trans (by kernel_rfl)
theorem r1_eq : den prog ann 96 (.code r1 :: K) s = mreg prog ann 96 none [] none [] [qC 5 0,qA 6 (loadF true 4) 3,⟨some 7, none, .c 0 (fun s => (.fn 81 [] [])) fun s => [(s.get 5), (s.get 6)]⟩,qF 8 fun s => binA prog .geq 3 (s.get 7) (.int .i64 0),qC 4 8] K s := (den_reg hf _ K s).trans (by kernel_rfl)
theorem ret_eq : den prog ann 96 (.code .ret :: K) s = finM true [fun s => some (s.get 4)] s := (den_ret hf K s).trans (by kernel_rfl)
theorem nil_eq (s : St) : den prog ann 96 [] s = finM true [fun s => some (s.get 4)] s := (den_nil hf s).trans (by kernel_rfl)
theorem inBlock_eq (id : Nat) (K : List Item) (s : St) : den prog ann 96 (.inBlock id :: K) s = den prog ann 96 K s := den_inBlock hf id K s
theorem exit_eq (id : Nat) (K : List Item) (s : St) : den prog ann 96 (.code (.exit id) :: K) s = exitV prog ann 96 (exitTo id K) s := den_exitV hf id K s
theorem call_eq (v0 v1 : AV) (m : Mem) (h : closedL [v0, v1] = true) : denC prog ann 96 [v0, v1] m = (den prog ann 96 [.code b] ⟨[(0, v0), (1, v1)], 9, Mem.empty⟩).bind fun r => some (r.1, m) := (denC_pure hf (b := b) (by kernel_rfl) (by kernel_rfl) (by kernel_rfl) h m).trans (by kernel_rfl)
theorem pure_eq : (ann 96).pure = true := by kernel_rfl
attribute [simp] b_eq r0_eq r1_eq ret_eq nil_eq inBlock_eq exit_eq pure_eq
end
end slices_Contains_cut
namespace watch_read_1
noncomputable section
variable (K : List Item) (s : St)
def b : Code := (Try.f94.body).getD .skip
theorem hf : prog.funcs[94]? = some Try.f94 := by kernel_rfl
def r0 := findReg b 0
def r1 := findReg b 1
theorem b_eq : den prog ann 94 (.code b :: K) s = den prog ann 94 (.code r0 :: .code r1 :: .code .ret :: K) s := den_flat hf (l := [r0, r1, .ret]) (by kernel_rfl) K s
theorem r0_eq : den prog ann 94 (.code r0 :: K) s = mreg prog ann 94 none [] none [] [qF 6 fun s => some (.bool false)] K s := (den_reg hf _ K s).trans (by kernel_rfl)
theorem r1_eq : den prog ann 94 (.code r1 :: K) s = mreg prog ann 94 none [] none [] [qC 7 0,qF 8 fun s => binA prog .geq 3 (s.get 7) (.int .i64 0),qC 9 8,⟨some 10, some (9, true), .v fun s => some (s.get 0)⟩,⟨some 11, some (9, true), .v fun s => loadA false 1 s.m (s.get 2)⟩,⟨some 12, some (9, true), .v fun s => binA prog .lss 3 (s.get 10) (s.get 11)⟩,qF 13 fun s => pickA (s.get 9) (s.get 12) (.bool false),qC 14 13,⟨some 15, some (14, true), .v fun s => some (s.get 1)⟩,⟨some 16, some (14, true), .v fun s => binA prog .geq 3 (s.get 15) (.int .i64 1)⟩,qF 17 fun s => pickA (s.get 14) (s.get 16) (.bool false),qC 18 17,⟨some 19, some (18, true), .v fun s => some (s.get 1)⟩,⟨some 20, some (18, true), .v fun s => fieldA 0 (s.get 3)⟩,⟨some 21, some (18, true), .v fun s => loadA false 1 s.m (s.get 20)⟩,⟨some 22, some (18, true), .v fun s => some (s.get 0)⟩,⟨some 23, some (18, true), .v fun s => idxSl 1 (s.get 21) (s.get 22)⟩,⟨some 24, some (18, true), .v fun s => loadA false 1 s.m (s.get 23)⟩,⟨some 25, some (18, true), .v fun s => binA prog .leq 3 (s.get 19) (s.get 24)⟩,qF 26 fun s => pickA (s.get 18) (s.get 25) (.bool false),qC 6 26] K s := (den_reg hf _ K s).trans (by kernel_rfl)
theorem ret_eq : den prog ann 94 (.code .ret :: K) s = finM false [fun s => some (s.get 6)] s := (den_ret hf K s).trans (by kernel_rfl)
theorem nil_eq (s : St) : den prog ann 94 [] s = finM false [fun s => some (s.get 6)] s := (den_nil hf s).trans (by kernel_rfl)
theorem inBlock_eq (id : Nat) (K : List Item) (s : St) : den prog ann 94 (.inBlock id :: K) s = den prog ann 94 K s := den_inBlock hf id K s
theorem exit_eq (id : Nat) (K : List Item) (s : St) : den prog ann 94 (.code (.exit id) :: K) s = exitV prog ann 94 (exitTo id K) s := den_exitV hf id K s
theorem call_eq (v0 v1 v2 v3 : AV) (m : Mem) : denC prog ann 94 [v0, v1, v2, v3] m = den prog ann 94 [.code b] ⟨[(0, v0), (1, v1), (2, v2), (3, v3)], 27, m⟩ := (denC_impure hf (b := b) (by kernel_rfl) (by kernel_rfl) (by kernel_rfl) m).trans (by kernel_rfl)
theorem pure_eq : (ann 94).pure = false := by kernel_rfl
attribute [simp] b_eq r0_eq r1_eq ret_eq nil_eq inBlock_eq exit_eq pure_eq
end
end watch_read_1
namespace watch_read_2
noncomputable section
variable (K : List Item) (s : St)
def b : Code := (Try.f95.body).getD .skip
theorem hf : prog.funcs[95]? = some Try.f95 := by kernel_rfl
def r0 := findReg b 0
def r1 := findReg b 1
def r2 := findReg b 2
def i0 := findCond b 0
def i0t := thenOf i0
def i0e := elseOf i0
def r3 := findReg b 3
theorem b_eq : den prog ann 95 (.code b :: K) s = den prog ann 95 (.code r0 :: .code r1 :: .code r2 :: .code i0 :: K) s := den_flat hf (l := [r0, r1, r2, i0]) (by kernel_rfl) K s
theorem r0_eq : den prog ann 95 (.code r0 :: K) s = mreg prog ann 95 none [] none [] [qA 7 frozenPtr 2] K s := (den_reg hf _ K s).trans (by kernel_rfl)
theorem r1_draw : drawOk (fun g => (ann g).pure) (modeOf (ann 95) (idOf r1)) (frzOf (ann 95) (idOf r1)) (opsOf r1) = true := drawOk_of (an := [0, 0, 1, 5, 15, 31, 0, 127, 255, 0, 1023, 0, 4095]) (by kernel_rfl) (by kernel_rfl)
theorem r1_eq : den prog ann 95 (.code r1 :: K) s = mreg prog ann 95 none [] (some 13) [8] [qF 9 fun s => loadA false 1 s.m (s.get 3),qC 10 0,qA 11 nilA 9,qA 12 (fieldA 5) 11,qB 13 (idxArr 4 1) 12 10,qF 14 fun s => loadA false 1 s.m (s.get 13),qC 15 1,qB 16 (idxSl 4) 14 15,qF 17 fun s => loadA true 4 s.m (s.get 16),qA 18 (loadF true 4) 7,⟨some 19, none, .c 0 (fun s => (.fn 91 [] [])) fun s => [(s.get 17), (s.get 18)]⟩,⟨some 8, none, .w false (some 11) fun s => newPtr s.m [.int .i64 0, .int .i64 0, .int .i64 0, .int .i64 0]⟩,⟨none, none, .w false (some 12) fun s => stA true 4 s.m (s.get 8) (s.get 19)⟩] K s := (den_regD hf r1_draw K s).trans (by kernel_rfl)
theorem r2_draw : drawOk (fun g => (ann g).pure) (modeOf (ann 95) (idOf r2)) (frzOf (ann 95) (idOf r2)) (opsOf r2) = true := drawOk_of (an := [0, 0, 0, 2, 10, 30, 62, 0, 254, 510, 1023]) (by kernel_rfl) (by kernel_rfl)
theorem r2_eq : den prog ann 95 (.code r2 :: K) s = mreg prog ann 95 none [] (some 11) [] [qA 20 (loadF true 4) 8,qF 21 fun s => loadA false 1 s.m (s.get 3),qC 22 0,qA 23 nilA 21,qA 24 (fieldA 5) 23,qB 25 (idxArr 4 1) 24 22,qF 26 fun s => loadA false 1 s.m (s.get 25),qC 27 1,qB 28 (idxSl 4) 26 27,qF 29 fun s => loadA true 4 s.m (s.get 28),qB 30 (binA prog .neq 99) 20 29] K s := (den_regD hf r2_draw K s).trans (by kernel_rfl)
theorem i0_eq : den prog ann 95 (.code i0 :: K) s = ifV prog ann 95 30 i0t i0e K s (s.get 30) := den_if hf (by kernel_rfl) K s
theorem i0t_eq : den prog ann 95 (.code i0t :: K) s = den prog ann 95 (.code r3 :: K) s := den_flat hf (l := [r3]) (by kernel_rfl) K s
theorem r3_draw : drawOk (fun g => (ann g).pure) (modeOf (ann 95) (idOf r3)) (frzOf (ann 95) (idOf r3)) (opsOf r3) = true := drawOk_of (an := [0, 0, 1, 5, 15, 31, 0, 0, 255, 511, 1023]) (by kernel_rfl) (by kernel_rfl)
theorem r3_eq : den prog ann 95 (.code r3 :: K) s = mreg prog ann 95 none [] (some 11) [] [qF 31 fun s => loadA false 1 s.m (s.get 3),qC 32 0,qA 33 nilA 31,qA 34 (fieldA 5) 33,qB 35 (idxArr 4 1) 34 32,qF 36 fun s => loadA false 1 s.m (s.get 35),qC 37 1,qA 38 (loadF true 4) 8,qB 39 (idxSl 4) 36 37,⟨none, none, .w false (some 9) fun s => stA true 4 s.m (s.get 39) (s.get 38)⟩,⟨none, none, .w false (some 10) fun s => stA false 1 s.m (s.get 4) (.bool true)⟩] K s := (den_regD hf r3_draw K s).trans (by kernel_rfl)
theorem i0e_eq : den prog ann 95 (.code i0e :: K) s = den prog ann 95 (K) s := den_flat hf (l := []) (by kernel_rfl) K s
theorem ret_eq : den prog ann 95 (.code .ret :: K) s = finM false [] s := (den_ret hf K s).trans (by kernel_rfl)
theorem nil_eq (s : St) : den prog ann 95 [] s = finM false [] s := (den_nil hf s).trans (by kernel_rfl)
theorem inBlock_eq (id : Nat) (K : List Item) (s : St) : den prog ann 95 (.inBlock id :: K) s = den prog ann 95 K s := den_inBlock hf id K s
theorem exit_eq (id : Nat) (K : List Item) (s : St) : den prog ann 95 (.code (.exit id) :: K) s = exitV prog ann 95 (exitTo id K) s := den_exitV hf id K s
theorem call_eq (v0 v1 v2 v3 v4 : AV) (m : Mem) : denC prog ann 95 [v0, v1, v2, v3, v4] m = den prog ann 95 [.code b] ⟨[(0, v0), (1, v1), (2, v2), (3, v3), (4, v4)], 40, m⟩ := (denC_impure hf (b := b) (by kernel_rfl) (by kernel_rfl) (by kernel_rfl) m).trans (by kernel_rfl)
theorem pure_eq : (ann 95).pure = false := by kernel_rfl
attribute [simp] b_eq r0_eq r1_eq r2_eq i0_eq i0t_eq r3_eq i0e_eq ret_eq nil_eq inBlock_eq exit_eq pure_eq
end
end watch_read_2
namespace watch_read
noncomputable section
variable (K : List Item) (s : St)
def b : Code := (Try.f61.body).getD .skip
theorem hf : prog.funcs[61]? = some Try.f61 := by kernel_rfl
def r0 := findReg b 0
def r1 := findReg b 1
def r2 := findReg b 2
def i0 := findCond b 0
def i0t := thenOf i0
def i0e := elseOf i0
def r3 := findReg b 3
def r4 := findReg b 4
def r5 := findReg b 5
def r6 := findReg b 6
def r7 := findReg b 7
def k0 := findBlk b 0
def l0 := loopOf k0
def L0 (x1 x4 x5 x6 x61 x62 x63 : AV) (m : Mem) (K : List Item) : Option Res := den prog ann 61 (.code l0 :: .inLoop l0 :: .inBlock 0 :: K) ⟨[(1, x1), (4, x4), (5, x5), (6, x6), (61, x61), (62, x62), (63, x63)], 224, m⟩
def r8 := findReg b 8
def i1 := findCond b 1
def i1t := thenOf i1
def i1e := elseOf i1
def k1 := findBlk b 1
def r9 := findReg b 9
def r10 := findReg b 10
def i2 := findCond b 2
def i2t := thenOf i2
def i2e := elseOf i2
def r11 := findReg b 11
def r12 := findReg b 12
def r13 := findReg b 13
def k2 := findBlk b 2
def l2 := loopOf k2
def L2 (x1 x4 x5 x91 x92 : AV) (m : Mem) (K : List Item) : Option Res := den prog ann 61 (.code l2 :: .inLoop l2 :: .inBlock 2 :: K) ⟨[(1, x1), (4, x4), (5, x5), (91, x91), (92, x92)], 224, m⟩
def r14 := findReg b 14
def i3 := findCond b 3
def i3t := thenOf i3
def i3e := elseOf i3
def k3 := findBlk b 3
def r15 := findReg b 15
def r16 := findReg b 16
def k4 := findBlk b 4
def l4 := loopOf k4
def L4 (x1 x4 x5 x9 x91 x92 x99 x100 : AV) (m : Mem) (K : List Item) : Option Res := den prog ann 61 (.code l4 :: .inLoop l4 :: .inBlock 4 :: K) ⟨[(1, x1), (4, x4), (5, x5), (9, x9), (91, x91), (92, x92), (99, x99), (100, x100)], 224, m⟩
def r17 := findReg b 17
def i4 := findCond b 4
def i4t := thenOf i4
def i4e := elseOf i4
def k5 := findBlk b 5
def r18 := findReg b 18
def r19 := findReg b 19
def r20 := findReg b 20
def r21 := findReg b 21
def r22 := findReg b 22
def r23 := findReg b 23
def r24 := findReg b 24
def k6 := findBlk b 6
def l6 := loopOf k6
def L6 (x1 x4 x5 x12 : AV) (m : Mem) (K : List Item) : Option Res := den prog ann 61 (.code l6 :: .inLoop l6 :: .inBlock 6 :: K) ⟨[(1, x1), (4, x4), (5, x5), (12, x12)], 224, m⟩
def r25 := findReg b 25
def i5 := findCond b 5
def i5t := thenOf i5
def i5e := elseOf i5
def k7 := findBlk b 7
def r26 := findReg b 26
def r27 := findReg b 27
def r28 := findReg b 28
def k8 := findBlk b 8
def l8 := loopOf k8
def L8 (x1 x4 x5 x12 x13 x125 x126 : AV) (m : Mem) (K : List Item) : Option Res := den prog ann 61 (.code l8 :: .inLoop l8 :: .inBlock 8 :: K) ⟨[(1, x1), (4, x4), (5, x5), (12, x12), (13, x13), (125, x125), (126, x126)], 224, m⟩
def r29 := findReg b 29
def i6 := findCond b 6
def i6t := thenOf i6
def i6e := elseOf i6
def k9 := findBlk b 9
def r30 := findReg b 30
def r31 := findReg b 31
def k10 := findBlk b 10
def l10 := loopOf k10
def L10 (x1 x4 x5 x12 x13 x14 x15 x125 x126 : AV) (m : Mem) (K : List Item) : Option Res := den prog ann 61 (.code l10 :: .inLoop l10 :: .inBlock 10 :: K) ⟨[(1, x1), (4, x4), (5, x5), (12, x12), (13, x13), (14, x14), (15, x15), (125, x125), (126, x126)], 224, m⟩
def r32 := findReg b 32
def i7 := findCond b 7
def i7t := thenOf i7
def i7e := elseOf i7
def k11 := findBlk b 11
def r34 := findReg b 34
def r33 := findReg b 33
def r35 := findReg b 35
def r36 := findReg b 36
def k12 := findBlk b 12
def l12 := loopOf k12
def L12 (x1 x4 x5 x12 x13 x154 x155 x156 : AV) (m : Mem) (K : List Item) : Option Res := den prog ann 61 (.code l12 :: .inLoop l12 :: .inBlock 12 :: K) ⟨[(1, x1), (4, x4), (5, x5), (12, x12), (13, x13), (154, x154), (155, x155), (156, x156)], 224, m⟩
def r37 := findReg b 37
def i8 := findCond b 8
def i8t := thenOf i8
def i8e := elseOf i8
def k13 := findBlk b 13
def r38 := findReg b 38
def r39 := findReg b 39
def r40 := findReg b 40
def r41 := findReg b 41
def r42 := findReg b 42
def r43 := findReg b 43
def k14 := findBlk b 14
def l14 := loopOf k14
def L14 (x4 x5 x181 x182 : AV) (m : Mem) (K : List Item) : Option Res := den prog ann 61 (.code l14 :: .inLoop l14 :: .inBlock 14 :: K) ⟨[(4, x4), (5, x5), (181, x181), (182, x182)], 224, m⟩
def r44 := findReg b 44
def i9 := findCond b 9
def i9t := thenOf i9
def i9e := elseOf i9
def k15 := findBlk b 15
def r45 := findReg b 45
def r46 := findReg b 46
def k16 := findBlk b 16
def l16 := loopOf k16
def L16 (x4 x5 x18 x181 x182 x190 x191 x192 : AV) (m : Mem) (K : List Item) : Option Res := den prog ann 61 (.code l16 :: .inLoop l16 :: .inBlock 16 :: K) ⟨[(4, x4), (5, x5), (18, x18), (181, x181), (182, x182), (190, x190), (191, x191), (192, x192)], 224, m⟩
def r47 := findReg b 47
def i10 := findCond b 10
def i10t := thenOf i10
def i10e := elseOf i10
def k17 := findBlk b 17
def r48 := findReg b 48
def r49 := findReg b 49
def i11 := findCond b 11
def i11t := thenOf i11
def i11e := elseOf i11
def r50 := findReg b 50
def r51 := findReg b 51
def k18 := findBlk b 18
def l18 := loopOf k18
def L18 (x4 x5 x18 x20 x181 x182 x190 x191 x192 x203 x204 : AV) (m : Mem) (K : List Item) : Option Res := den prog ann 61 (.code l18 :: .inLoop l18 :: .inBlock 18 :: K) ⟨[(4, x4), (5, x5), (18, x18), (20, x20), (181, x181), (182, x182), (190, x190), (191, x191), (192, x192), (203, x203), (204, x204)], 224, m⟩
def r52 := findReg b 52
def i12 := findCond b 12
def i12t := thenOf i12
def i12e := elseOf i12
def k19 := findBlk b 19
def r53 := findReg b 53
def r54 := findReg b 54
def i13 := findCond b 13
def i13t := thenOf i13
def i13e := elseOf i13
def r55 := findReg b 55
def r56 := findReg b 56
def r57 := findReg b 57
def r58 := findReg b 58
def r59 := findReg b 59
theorem b_eq : den prog ann 61 (.code b :: K) s = den prog ann 61 (.code r0 :: .code r1 :: .code r2 :: .code i0 :: .code r4 :: .code r5 :: .code r6 :: .code r7 :: .code k0 :: .code r13 :: .code k2 :: .code r24 :: .code k6 :: .code r43 :: .code k14 :: .code r59 :: .code .ret :: K) s := den_flat hf (l := [r0, r1, r2, i0, r4, r5, r6, r7, k0, r13, k2, r24, k6, r43, k14, r59, .ret]) (by kernel_rfl) K s
theorem r0_eq : den prog ann 61 (.code r0 :: K) s = mreg prog ann 61 none [] none [] [qA 1 frozenPtr 0,qF 2 fun s => some (.nilp),qF 3 fun s => some (.bool false)] K s := (den_reg hf _ K s).trans (by kernel_rfl)
theorem r1_eq : den prog ann 61 (.code r1 :: K) s = mreg prog ann 61 none [] none [4] [qA 22 (fieldA 0) 1,qA 23 (loadF false 1) 22,qA 24 lenSl 23,⟨some 4, none, .w false none fun s => newPtr s.m [.int .i64 0]⟩,⟨none, none, .w false none fun s => stA false 1 s.m (s.get 4) (s.get 24)⟩] K s := (den_reg hf _ K s).trans (by kernel_rfl)
theorem r2_eq : den prog ann 61 (.code r2 :: K) s = mreg prog ann 61 none [] none [] [qA 25 (loadF false 1) 4,qF 26 fun s => binA prog .lss 3 (s.get 25) (.int .i64 1),qC 27 26,⟨some 28, some (27, false), .v fun s => loadF false 1 (s.get 4)⟩,⟨some 29, some (27, false), .v fun s => binA prog .gtr 3 (s.get 28) (.int .i64 4)⟩,qF 30 fun s => pickA (s.get 27) (.bool true) (s.get 29),qC 31 30,⟨some 32, some (31, false), .v fun s => fieldA 1 (s.get 1)⟩,⟨some 33, some (31, false), .v fun s => loadF false 1 (s.get 32)⟩,⟨some 34, some (31, false), .v fun s => lenSl (s.get 33)⟩,⟨some 35, some (31, false), .v fun s => binA prog .gtr 3 (s.get 34) (.int .i64 24)⟩,qF 36 fun s => pickA (s.get 31) (.bool true) (s.get 35),qC 37 36,⟨some 38, some (37, false), .v fun s => fieldA 0 (s.get 1)⟩,⟨some 39, some (37, false), .v fun s => loadF false 1 (s.get 38)⟩,⟨some 40, some (37, false), .c 0 (fun s => (.fn 92 [] [])) fun s => [(s.get 39)]⟩,⟨some 41, some (37, false), .v fun s => binA prog .lss 3 (s.get 40) (.int .i64 0)⟩,qF 42 fun s => pickA (s.get 37) (.bool true) (s.get 41),qC 43 42,⟨some 44, some (43, false), .v fun s => fieldA 0 (s.get 1)⟩,⟨some 45, some (43, false), .v fun s => loadF false 1 (s.get 44)⟩,⟨some 46, some (43, false), .c 0 (fun s => (.fn 93 [] [])) fun s => [(s.get 45)]⟩,⟨some 47, some (43, false), .v fun s => binA prog .gtr 3 (s.get 46) (.int .i64 6)⟩,qF 48 fun s => pickA (s.get 43) (.bool true) (s.get 47)] K s := (den_reg hf _ K s).trans (by kernel_rfl)
theorem i0_eq : den prog ann 61 (.code i0 :: K) s = ifV prog ann 61 48 i0t i0e K s (s.get 48) := den_if hf (by kernel_rfl) K s
theorem i0t_eq : den prog ann 61 (.code i0t :: K) s = den prog ann 61 (.code r3 :: .code .ret :: K) s := den_flat hf (l := [r3, .ret]) (by kernel_rfl) K s
theorem r3_eq : den prog ann 61 (.code r3 :: K) s = mreg prog ann 61 none [] none [] [qF 2 fun s => some (.nilp),qF 3 fun s => some (.bool false)] K s := (den_reg hf _ K s).trans (by kernel_rfl)
theorem i0e_eq : den prog ann 61 (.code i0e :: K) s = den prog ann 61 (K) s := den_flat hf (l := []) (by kernel_rfl) K s
theorem r4_eq : den prog ann 61 (.code r4 :: K) s = mreg prog ann 61 none [] none [5] [qA 49 (loadF false 1) 4,qF 50 fun s => bldA (plc [(0, 1), (1, 4), (5, 4)]) [.int .i64 0, .int .i64 0, .int .i64 0, .int .i64 0, .int .i64 0, .nils, .nils, .nils, .nils] [(0, (s.get 49))],⟨some 51, none, .w false none fun s => newPtr s.m (AV.cells (s.get 50))⟩,⟨some 5, none, .w false none fun s => newPtr s.m [.nilp]⟩,⟨none, none, .w false none fun s => stA false 1 s.m (s.get 5) (s.get 51)⟩] K s := (den_reg hf _ K s).trans (by kernel_rfl)
theorem r5_draw : drawOk (fun g => (ann g).pure) (modeOf (ann 61) (idOf r5)) (frzOf (ann 61) (idOf r5)) (opsOf r5) = true := drawOk_of (an := [0, 1, 3, 7, 0, 16, 63]) (by kernel_rfl) (by kernel_rfl)
theorem r5_eq : den prog ann 61 (.code r5 :: K) s = mreg prog ann 61 none [] (some 7) [] [qA 52 (loadF false 1) 5,qA 53 nilA 52,qA 54 (fieldA 1) 53,qF 55 fun s => sliceArr 4 1 (s.get 54) none none,qA 56 (fieldA 0) 1,qA 57 (loadF false 1) 56,⟨some 58, none, .w false (some 6) fun s => copyA 1 s.m (s.get 55) (s.get 57)⟩] K s := (den_regD hf r5_draw K s).trans (by kernel_rfl)
theorem r6_eq : den prog ann 61 (.code r6 :: K) s = mreg prog ann 61 none [] none [] [qF 59 fun s => some (.fn 94 [] [(s.get 4), (s.get 1)]),qC 6 59] K s := (den_reg hf _ K s).trans (by kernel_rfl)
theorem r7_eq : den prog ann 61 (.code r7 :: K) s = mreg prog ann 61 none [] none [] [qA 60 (fieldA 1) 1,qA 61 (loadF false 1) 60,qA 62 lenSl 61,qF 63 fun s => some (.int .i64 0)] K s := (den_reg hf _ K s).trans (by kernel_rfl)
theorem k0_eq (K : List Item) (t : List (Nat × AV)) (m : Mem) : den prog ann 61 (.code k0 :: K) ⟨t, 224, m⟩ = L0 (get t 1) (get t 4) (get t 5) (get t 6) (get t 61) (get t 62) (get t 63) m K := den_loop_enter hf (b := l0) (id := 8) (l := [1, 4, 5, 6, 61, 62, 63]) (by kernel_rfl) (by kernel_rfl) (by kernel_rfl) K _
theorem l0_eq (K : List Item) (t : List (Nat × AV)) (m : Mem) : den prog ann 61 (.inLoop l0 :: .inBlock 0 :: K) ⟨t, 224, m⟩ = L0 (get t 1) (get t 4) (get t 5) (get t 6) (get t 61) (get t 62) (get t 63) m K := den_loop_again hf (id := 8) (l := [1, 4, 5, 6, 61, 62, 63]) (by kernel_rfl) (by kernel_rfl) (.inBlock 0 :: K) _
theorem L0_eq (x1 x4 x5 x6 x61 x62 x63 : AV) (m : Mem) (K : List Item) : L0 x1 x4 x5 x6 x61 x62 x63 m K = den prog ann 61 (.code r8 :: .code i1 :: .code k1 :: .code r12 :: .inLoop l0 :: .inBlock 0 :: K) ⟨[(1, x1), (4, x4), (5, x5), (6, x6), (61, x61), (62, x62), (63, x63)], 224, m⟩ := den_flat hf (l := [r8, i1, k1, r12]) (by kernel_rfl) _ _
theorem r8_eq : den prog ann 61 (.code r8 :: K) s = mreg prog ann 61 (some [1, 4, 5, 6, 61, 62, 63]) [] none [] [qB 64 (binA prog .lss 3) 63 62] K s := (den_reg hf _ K s).trans (by kernel_rfl)
theorem i1_eq : den prog ann 61 (.code i1 :: K) s = ifV prog ann 61 64 i1t i1e K s (s.get 64) := den_if hf (by kernel_rfl) K s
theorem i1t_eq : den prog ann 61 (.code i1t :: K) s = den prog ann 61 (K) s := den_flat hf (l := []) (by kernel_rfl) K s
theorem i1e_eq : den prog ann 61 (.code i1e :: K) s = den prog ann 61 (.code (.exit 0) :: K) s := den_flat hf (l := [(.exit 0)]) (by kernel_rfl) K s
theorem k1_eq : den prog ann 61 (.code k1 :: K) s = den prog ann 61 (.code r9 :: .code r10 :: .code i2 :: .inBlock 1 :: K) s := den_blk hf (b := blkOf k1) (l := [r9, r10, i2]) (by kernel_rfl) (by kernel_rfl) K s
theorem r9_eq : den prog ann 61 (.code r9 :: K) s = mreg prog ann 61 none [] none [8] [qB 65 (idxSl 4) 61 63,qA 66 (loadF true 4) 65,⟨some 8, none, .w false none fun s => newPtr s.m [.int .i64 0, .int .i64 0, .int .i64 0, .int .i64 0]⟩,⟨none, none, .w false none fun s => stA true 4 s.m (s.get 8) (s.get 66)⟩] K s := (den_reg hf _ K s).trans (by kernel_rfl)
theorem r10_eq : den prog ann 61 (.code r10 :: K) s = mreg prog ann 61 none [] none [] [qC 67 6,qA 68 (fieldA 0) 8,qA 69 (loadF false 1) 68,qA 70 (fieldA 1) 8,qA 71 (loadF false 1) 70,⟨some 72, none, .c 0 (fun s => (s.get 67)) fun s => [(s.get 69), (s.get 71)]⟩,qA 73 (unA .not) 72,qC 74 73,⟨some 75, some (74, false), .v fun s => some (s.get 6)⟩,⟨some 76, some (74, false), .v fun s => fieldA 2 (s.get 8)⟩,⟨some 77, some (74, false), .v fun s => loadF false 1 (s.get 76)⟩,⟨some 78, some (74, false), .v fun s => fieldA 3 (s.get 8)⟩,⟨some 79, some (74, false), .v fun s => loadF false 1 (s.get 78)⟩,⟨some 80, some (74, false), .c 0 (fun s => (s.get 75)) fun s => [(s.get 77), (s.get 79)]⟩,⟨some 81, some (74, false), .v fun s => unA .not (s.get 80)⟩,qF 82 fun s => pickA (s.get 74) (.bool true) (s.get 81),qC 83 82,⟨some 84, some (83, false), .v fun s => fieldA 0 (s.get 8)⟩,⟨some 85, some (83, false), .v fun s => loadF false 1 (s.get 84)⟩,⟨some 86, some (83, false), .v fun s => fieldA 2 (s.get 8)⟩,⟨some 87, some (83, false), .v fun s => loadF false 1 (s.get 86)⟩,⟨some 88, some (83, false), .v fun s => binA prog .eql 3 (s.get 85) (s.get 87)⟩,qF 89 fun s => pickA (s.get 83) (.bool true) (s.get 88)] K s := (den_reg hf _ K s).trans (by kernel_rfl)
theorem i2_eq : den prog ann 61 (.code i2 :: K) s = ifV prog ann 61 89 i2t i2e K s (s.get 89) := den_if hf (by kernel_rfl) K s
theorem i2t_eq : den prog ann 61 (.code i2t :: K) s = den prog ann 61 (.code r11 :: .code .ret :: K) s := den_flat hf (l := [r11, .ret]) (by kernel_rfl) K s
theorem r11_eq : den prog ann 61 (.code r11 :: K) s = mreg prog ann 61 none [] none [] [qF 2 fun s => some (.nilp),qF 3 fun s => some (.bool false)] K s := (den_reg hf _ K s).trans (by kernel_rfl)
theorem i2e_eq : den prog ann 61 (.code i2e :: K) s = den prog ann 61 (K) s := den_flat hf (l := []) (by kernel_rfl) K s
theorem r12_eq : den prog ann 61 (.code r12 :: K) s = mreg prog ann 61 (some [1, 4, 5, 6, 61, 62, 63]) [] none [] [qF 90 fun s => binA prog .add 3 (s.get 63) (.int .i64 1),qC 63 90] K s := (den_reg hf _ K s).trans (by kernel_rfl)
theorem r13_eq : den prog ann 61 (.code r13 :: K) s = mreg prog ann 61 (some [1, 4, 5]) [] none [] [qA 91 (loadF false 1) 4,qF 92 fun s => some (.int .i64 0)] K s := (den_reg hf _ K s).trans (by kernel_rfl)
theorem k2_eq (K : List Item) (t : List (Nat × AV)) (m : Mem) : den prog ann 61 (.code k2 :: K) ⟨t, 224, m⟩ = L2 (get t 1) (get t 4) (get t 5) (get t 91) (get t 92) m K := den_loop_enter hf (b := l2) (id := 14) (l := [1, 4, 5, 91, 92]) (by kernel_rfl) (by kernel_rfl) (by kernel_rfl) K _
theorem l2_eq (K : List Item) (t : List (Nat × AV)) (m : Mem) : den prog ann 61 (.inLoop l2 :: .inBlock 2 :: K) ⟨t, 224, m⟩ = L2 (get t 1) (get t 4) (get t 5) (get t 91) (get t 92) m K := den_loop_again hf (id := 14) (l := [1, 4, 5, 91, 92]) (by kernel_rfl) (by kernel_rfl) (.inBlock 2 :: K) _
theorem L2_eq (x1 x4 x5 x91 x92 : AV) (m : Mem) (K : List Item) : L2 x1 x4 x5 x91 x92 m K = den prog ann 61 (.code r14 :: .code i3 :: .code k3 :: .code r23 :: .inLoop l2 :: .inBlock 2 :: K) ⟨[(1, x1), (4, x4), (5, x5), (91, x91), (92, x92)], 224, m⟩ := den_flat hf (l := [r14, i3, k3, r23]) (by kernel_rfl) _ _
theorem r14_eq : den prog ann 61 (.code r14 :: K) s = mreg prog ann 61 (some [1, 4, 5, 91, 92]) [] none [] [qB 93 (binA prog .lss 3) 92 91] K s := (den_reg hf _ K s).trans (by kernel_rfl)
theorem i3_eq : den prog ann 61 (.code i3 :: K) s = ifV prog ann 61 93 i3t i3e K s (s.get 93) := den_if hf (by kernel_rfl) K s
theorem i3t_eq : den prog ann 61 (.code i3t :: K) s = den prog ann 61 (K) s := den_flat hf (l := []) (by kernel_rfl) K s
theorem i3e_eq : den prog ann 61 (.code i3e :: K) s = den prog ann 61 (.code (.exit 2) :: K) s := den_flat hf (l := [(.exit 2)]) (by kernel_rfl) K s
theorem k3_eq : den prog ann 61 (.code k3 :: K) s = den prog ann 61 (.code r15 :: .code r16 :: .code k4 :: .inBlock 3 :: K) s := den_blk hf (b := blkOf k3) (l := [r15, r16, k4]) (by kernel_rfl) (by kernel_rfl) K s
theorem r15_eq : den prog ann 61 (.code r15 :: K) s = mreg prog ann 61 none [] none [] [qC 94 92,qC 9 94] K s := (den_reg hf _ K s).trans (by kernel_rfl)
theorem r16_eq : den prog ann 61 (.code r16 :: K) s = mreg prog ann 61 none [] none [] [qA 95 (fieldA 0) 1,qA 96 (loadF false 1) 95,qC 97 9,qB 98 (idxSl 1) 96 97,qA 99 (loadF false 1) 98,qF 100 fun s => some (.int .i64 0)] K s := (den_reg hf _ K s).trans (by kernel_rfl)
theorem k4_eq (K : List Item) (t : List (Nat × AV)) (m : Mem) : den prog ann 61 (.code k4 :: K) ⟨t, 224, m⟩ = L4 (get t 1) (get t 4) (get t 5) (get t 9) (get t 91) (get t 92) (get t 99) (get t 100) m K := den_loop_enter hf (b := l4) (id := 17) (l := [1, 4, 5, 9, 91, 92, 99, 100]) (by kernel_rfl) (by kernel_rfl) (by kernel_rfl) K _
theorem l4_eq (K : List Item) (t : List (Nat × AV)) (m : Mem) : den prog ann 61 (.inLoop l4 :: .inBlock 4 :: K) ⟨t, 224, m⟩ = L4 (get t 1) (get t 4) (get t 5) (get t 9) (get t 91) (get t 92) (get t 99) (get t 100) m K := den_loop_again hf (id := 17) (l := [1, 4, 5, 9, 91, 92, 99, 100]) (by kernel_rfl) (by kernel_rfl) (.inBlock 4 :: K) _
theorem L4_eq (x1 x4 x5 x9 x91 x92 x99 x100 : AV) (m : Mem) (K : List Item) : L4 x1 x4 x5 x9 x91 x92 x99 x100 m K = den prog ann 61 (.code r17 :: .code i4 :: .code k5 :: .code r22 :: .inLoop l4 :: .inBlock 4 :: K) ⟨[(1, x1), (4, x4), (5, x5), (9, x9), (91, x91), (92, x92), (99, x99), (100, x100)], 224, m⟩ := den_flat hf (l := [r17, i4, k5, r22]) (by kernel_rfl) _ _
theorem r17_eq : den prog ann 61 (.code r17 :: K) s = mreg prog ann 61 (some [1, 4, 5, 9, 91, 92, 99, 100]) [] none [] [qB 101 (binA prog .lss 3) 100 99] K s := (den_reg hf _ K s).trans (by kernel_rfl)
theorem i4_eq : den prog ann 61 (.code i4 :: K) s = ifV prog ann 61 101 i4t i4e K s (s.get 101) := den_if hf (by kernel_rfl) K s
theorem i4t_eq : den prog ann 61 (.code i4t :: K) s = den prog ann 61 (K) s := den_flat hf (l := []) (by kernel_rfl) K s
theorem i4e_eq : den prog ann 61 (.code i4e :: K) s = den prog ann 61 (.code (.exit 4) :: K) s := den_flat hf (l := [(.exit 4)]) (by kernel_rfl) K s
theorem k5_eq : den prog ann 61 (.code k5 :: K) s = den prog ann 61 (.code r18 :: .code r19 :: .code r20 :: .code r21 :: .inBlock 5 :: K) s := den_blk hf (b := blkOf k5) (l := [r18, r19, r20, r21]) (by kernel_rfl) (by kernel_rfl) K s
theorem r18_eq : den prog ann 61 (.code r18 :: K) s = mreg prog ann 61 none [] none [] [qC 102 100,qC 10 102] K s := (den_reg hf _ K s).trans (by kernel_rfl)
theorem r19_eq : den prog ann 61 (.code r19 :: K) s = mreg prog ann 61 none [] none [] [⟨some 11, none, .w false none fun s => newPtr s.m [.int .i64 0, .int .i64 0, .int .i64 0, .int .i64 0]⟩] K s := (den_reg hf _ K s).trans (by kernel_rfl)
theorem r20_eq : den prog ann 61 (.code r20 :: K) s = mreg prog ann 61 none [] none [] [qC 103 9,qC 104 10,qF 105 fun s => binA prog .add 3 (s.get 104) (.int .i64 1),qB 106 (idxArr 4 1) 11 103,⟨none, none, .w false none fun s => stA false 1 s.m (s.get 106) (s.get 105)⟩] K s := (den_reg hf _ K s).trans (by kernel_rfl)
theorem r21_draw : drawOk (fun g => (ann g).pure) (modeOf (ann 61) (idOf r21)) (frzOf (ann 61) (idOf r21)) (opsOf r21) = true := drawOk_of (an := [0, 0, 0, 0, 4, 20, 60, 124, 0, 256, 1020, 1, 2049, 8191, 16383]) (by kernel_rfl) (by kernel_rfl)
theorem r21_eq : den prog ann 61 (.code r21 :: K) s = mreg prog ann 61 none [] (some 15) [] [qA 107 (loadF false 1) 5,qC 108 9,qA 109 (loadF false 1) 5,qC 110 9,qA 111 nilA 109,qA 112 (fieldA 5) 111,qB 113 (idxArr 4 1) 112 110,qF 114 fun s => loadA false 1 s.m (s.get 113),qF 115 fun s => loadA true 4 s.m (s.get 11),qF 116 fun s => bslF 1 (bslA 4 1 [.int .i64 0, .int .i64 0, .int .i64 0, .int .i64 0] [(0, (s.get 115))]),⟨some 117, none, .w false (some 10) fun s => appendA 4 32 s.m (s.get 114) (s.get 116)⟩,qA 118 nilA 107,qA 119 (fieldA 5) 118,qB 120 (idxArr 4 1) 119 108,⟨none, none, .w false (some 14) fun s => stA false 1 s.m (s.get 120) (s.get 117)⟩] K s := (den_regD hf r21_draw K s).trans (by kernel_rfl)
theorem r22_eq : den prog ann 61 (.code r22 :: K) s = mreg prog ann 61 (some [1, 4, 5, 9, 91, 92, 99, 100]) [] none [] [qF 121 fun s => binA prog .add 3 (s.get 100) (.int .i64 1),qC 100 121] K s := (den_reg hf _ K s).trans (by kernel_rfl)
theorem r23_eq : den prog ann 61 (.code r23 :: K) s = mreg prog ann 61 (some [1, 4, 5, 91, 92]) [] none [] [qF 122 fun s => binA prog .add 3 (s.get 92) (.int .i64 1),qC 92 122] K s := (den_reg hf _ K s).trans (by kernel_rfl)
theorem r24_eq : den prog ann 61 (.code r24 :: K) s = mreg prog ann 61 (some [1, 4, 5]) [] none [] [⟨some 12, none, .w false none fun s => newPtr s.m [.bool false]⟩,⟨none, none, .w false none fun s => stA false 1 s.m (s.get 12) (.bool true)⟩] K s := (den_reg hf _ K s).trans (by kernel_rfl)
theorem k6_eq (K : List Item) (t : List (Nat × AV)) (m : Mem) : den prog ann 61 (.code k6 :: K) ⟨t, 224, m⟩ = L6 (get t 1) (get t 4) (get t 5) (get t 12) m K := den_loop_enter hf (b := l6) (id := 25) (l := [1, 4, 5, 12]) (by kernel_rfl) (by kernel_rfl) (by kernel_rfl) K _
theorem l6_eq (K : List Item) (t : List (Nat × AV)) (m : Mem) : den prog ann 61 (.inLoop l6 :: .inBlock 6 :: K) ⟨t, 224, m⟩ = L6 (get t 1) (get t 4) (get t 5) (get t 12) m K := den_loop_again hf (id := 25) (l := [1, 4, 5, 12]) (by kernel_rfl) (by kernel_rfl) (.inBlock 6 :: K) _
theorem L6_eq (x1 x4 x5 x12 : AV) (m : Mem) (K : List Item) : L6 x1 x4 x5 x12 m K = den prog ann 61 (.code r25 :: .code i5 :: .code k7 :: .code r41 :: .code r42 :: .inLoop l6 :: .inBlock 6 :: K) ⟨[(1, x1), (4, x4), (5, x5), (12, x12)], 224, m⟩ := den_flat hf (l := [r25, i5, k7, r41, r42]) (by kernel_rfl) _ _
theorem r25_eq : den prog ann 61 (.code r25 :: K) s = mreg prog ann 61 (some [1, 4, 5, 12]) [] none [] [qF 123 fun s => loadA false 1 s.m (s.get 12)] K s := (den_reg hf _ K s).trans (by kernel_rfl)
theorem i5_eq : den prog ann 61 (.code i5 :: K) s = ifV prog ann 61 123 i5t i5e K s (s.get 123) := den_if hf (by kernel_rfl) K s
theorem i5t_eq : den prog ann 61 (.code i5t :: K) s = den prog ann 61 (K) s := den_flat hf (l := []) (by kernel_rfl) K s
theorem i5e_eq : den prog ann 61 (.code i5e :: K) s = den prog ann 61 (.code (.exit 6) :: K) s := den_flat hf (l := [(.exit 6)]) (by kernel_rfl) K s
theorem k7_eq : den prog ann 61 (.code k7 :: K) s = den prog ann 61 (.code r26 :: .code r27 :: .code r28 :: .code k8 :: .code r36 :: .code k12 :: .inBlock 7 :: K) s := den_blk hf (b := blkOf k7) (l := [r26, r27, r28, k8, r36, k12]) (by kernel_rfl) (by kernel_rfl) K s
theorem r26_eq : den prog ann 61 (.code r26 :: K) s = mreg prog ann 61 none [] none [] [⟨none, none, .w false none fun s => stA false 1 s.m (s.get 12) (.bool false)⟩] K s := (den_reg hf _ K s).trans (by kernel_rfl)
theorem r27_eq : den prog ann 61 (.code r27 :: K) s = mreg prog ann 61 none [] none [] [qF 124 fun s => some (.fn 95 [] [(s.get 5), (s.get 12)]),qC 13 124] K s := (den_reg hf _ K s).trans (by kernel_rfl)
theorem r28_eq : den prog ann 61 (.code r28 :: K) s = mreg prog ann 61 none [] none [] [qA 125 (loadF false 1) 4,qF 126 fun s => some (.int .i64 0)] K s := (den_reg hf _ K s).trans (by kernel_rfl)
theorem k8_eq (K : List Item) (t : List (Nat × AV)) (m : Mem) : den prog ann 61 (.code k8 :: K) ⟨t, 224, m⟩ = L8 (get t 1) (get t 4) (get t 5) (get t 12) (get t 13) (get t 125) (get t 126) m K := den_loop_enter hf (b := l8) (id := 29) (l := [1, 4, 5, 12, 13, 125, 126]) (by kernel_rfl) (by kernel_rfl) (by kernel_rfl) K _
theorem l8_eq (K : List Item) (t : List (Nat × AV)) (m : Mem) : den prog ann 61 (.inLoop l8 :: .inBlock 8 :: K) ⟨t, 224, m⟩ = L8 (get t 1) (get t 4) (get t 5) (get t 12) (get t 13) (get t 125) (get t 126) m K := den_loop_again hf (id := 29) (l := [1, 4, 5, 12, 13, 125, 126]) (by kernel_rfl) (by kernel_rfl) (.inBlock 8 :: K) _
theorem L8_eq (x1 x4 x5 x12 x13 x125 x126 : AV) (m : Mem) (K : List Item) : L8 x1 x4 x5 x12 x13 x125 x126 m K = den prog ann 61 (.code r29 :: .code i6 :: .code k9 :: .code r35 :: .inLoop l8 :: .inBlock 8 :: K) ⟨[(1, x1), (4, x4), (5, x5), (12, x12), (13, x13), (125, x125), (126, x126)], 224, m⟩ := den_flat hf (l := [r29, i6, k9, r35]) (by kernel_rfl) _ _
theorem r29_eq : den prog ann 61 (.code r29 :: K) s = mreg prog ann 61 (some [1, 4, 5, 12, 13, 125, 126]) [] none [] [qB 127 (binA prog .lss 3) 126 125] K s := (den_reg hf _ K s).trans (by kernel_rfl)
theorem i6_eq : den prog ann 61 (.code i6 :: K) s = ifV prog ann 61 127 i6t i6e K s (s.get 127) := den_if hf (by kernel_rfl) K s
theorem i6t_eq : den prog ann 61 (.code i6t :: K) s = den prog ann 61 (K) s := den_flat hf (l := []) (by kernel_rfl) K s
theorem i6e_eq : den prog ann 61 (.code i6e :: K) s = den prog ann 61 (.code (.exit 8) :: K) s := den_flat hf (l := [(.exit 8)]) (by kernel_rfl) K s
theorem k9_eq : den prog ann 61 (.code k9 :: K) s = den prog ann 61 (.code r30 :: .code r31 :: .code k10 :: .inBlock 9 :: K) s := den_blk hf (b := blkOf k9) (l := [r30, r31, k10]) (by kernel_rfl) (by kernel_rfl) K s
theorem r30_eq : den prog ann 61 (.code r30 :: K) s = mreg prog ann 61 none [] none [] [qC 128 126,qC 14 128] K s := (den_reg hf _ K s).trans (by kernel_rfl)
theorem r31_eq : den prog ann 61 (.code r31 :: K) s = mreg prog ann 61 none [] none [] [qF 15 fun s => some (.int .i64 1)] K s := (den_reg hf _ K s).trans (by kernel_rfl)
theorem k10_eq (K : List Item) (t : List (Nat × AV)) (m : Mem) : den prog ann 61 (.code k10 :: K) ⟨t, 224, m⟩ = L10 (get t 1) (get t 4) (get t 5) (get t 12) (get t 13) (get t 14) (get t 15) (get t 125) (get t 126) m K := den_loop_enter hf (b := l10) (id := 32) (l := [1, 4, 5, 12, 13, 14, 15, 125, 126]) (by kernel_rfl) (by kernel_rfl) (by kernel_rfl) K _
theorem l10_eq (K : List Item) (t : List (Nat × AV)) (m : Mem) : den prog ann 61 (.inLoop l10 :: .inBlock 10 :: K) ⟨t, 224, m⟩ = L10 (get t 1) (get t 4) (get t 5) (get t 12) (get t 13) (get t 14) (get t 15) (get t 125) (get t 126) m K := den_loop_again hf (id := 32) (l := [1, 4, 5, 12, 13, 14, 15, 125, 126]) (by kernel_rfl) (by kernel_rfl) (.inBlock 10 :: K) _
theorem L10_eq (x1 x4 x5 x12 x13 x14 x15 x125 x126 : AV) (m : Mem) (K : List Item) : L10 x1 x4 x5 x12 x13 x14 x15 x125 x126 m K = den prog ann 61 (.code r32 :: .code i7 :: .code k11 :: .code r33 :: .inLoop l10 :: .inBlock 10 :: K) ⟨[(1, x1), (4, x4), (5, x5), (12, x12), (13, x13), (14, x14), (15, x15), (125, x125), (126, x126)], 224, m⟩ := den_flat hf (l := [r32, i7, k11, r33]) (by kernel_rfl) _ _
theorem r32_eq : den prog ann 61 (.code r32 :: K) s = mreg prog ann 61 (some [1, 4, 5, 12, 13, 14, 15, 125, 126]) [] none [] [qC 129 15,qA 130 (fieldA 0) 1,qA 131 (loadF false 1) 130,qC 132 14,qB 133 (idxSl 1) 131 132,qA 134 (loadF false 1) 133,qB 135 (binA prog .lss 3) 129 134] K s := (den_reg hf _ K s).trans (by kernel_rfl)
theorem i7_eq : den prog ann 61 (.code i7 :: K) s = ifV prog ann 61 135 i7t i7e K s (s.get 135) := den_if hf (by kernel_rfl) K s
theorem i7t_eq : den prog ann 61 (.code i7t :: K) s = den prog ann 61 (K) s := den_flat hf (l := []) (by kernel_rfl) K s
theorem i7e_eq : den prog ann 61 (.code i7e :: K) s = den prog ann 61 (.code (.exit 10) :: K) s := den_flat hf (l := [(.exit 10)]) (by kernel_rfl) K s
theorem k11_eq : den prog ann 61 (.code k11 :: K) s = den prog ann 61 (.code r34 :: .inBlock 11 :: K) s := den_blk hf (b := blkOf k11) (l := [r34]) (by kernel_rfl) (by kernel_rfl) K s
theorem r34_eq : den prog ann 61 (.code r34 :: K) s = mreg prog ann 61 none [] none [] [qC 138 13,qC 139 14,qC 140 15,qA 141 (loadF false 1) 5,qC 142 14,qA 143 nilA 141,qA 144 (fieldA 5) 143,qB 145 (idxArr 4 1) 144 142,qF 146 fun s => loadA false 1 s.m (s.get 145),qC 147 15,qF 148 fun s => binA prog .sub 3 (s.get 147) (.int .i64 1),qB 149 (idxSl 4) 146 148,qF 150 fun s => loadA true 4 s.m (s.get 149),⟨some 151, none, .c 0 (fun s => (s.get 138)) fun s => [(s.get 139), (s.get 140), (s.get 150)]⟩] K s := (den_reg hf _ K s).trans (by kernel_rfl)
theorem r33_eq : den prog ann 61 (.code r33 :: K) s = mreg prog ann 61 (some [1, 4, 5, 12, 13, 14, 15, 125, 126]) [] none [] [qC 136 15,qF 137 fun s => binA prog .add 3 (s.get 136) (.int .i64 1),qC 15 137] K s := (den_reg hf _ K s).trans (by kernel_rfl)
theorem r35_eq : den prog ann 61 (.code r35 :: K) s = mreg prog ann 61 (some [1, 4, 5, 12, 13, 125, 126]) [] none [] [qF 152 fun s => binA prog .add 3 (s.get 126) (.int .i64 1),qC 126 152] K s := (den_reg hf _ K s).trans (by kernel_rfl)
theorem r36_eq : den prog ann 61 (.code r36 :: K) s = mreg prog ann 61 (some [1, 4, 5, 12, 13]) [] none [] [qA 153 (fieldA 1) 1,qA 154 (loadF false 1) 153,qA 155 lenSl 154,qF 156 fun s => some (.int .i64 0)] K s := (den_reg hf _ K s).trans (by kernel_rfl)
theorem k12_eq (K : List Item) (t : List (Nat × AV)) (m : Mem) : den prog ann 61 (.code k12 :: K) ⟨t, 224, m⟩ = L12 (get t 1) (get t 4) (get t 5) (get t 12) (get t 13) (get t 154) (get t 155) (get t 156) m K := den_loop_enter hf (b := l12) (id := 37) (l := [1, 4, 5, 12, 13, 154, 155, 156]) (by kernel_rfl) (by kernel_rfl) (by kernel_rfl) K _
theorem l12_eq (K : List Item) (t : List (Nat × AV)) (m : Mem) : den prog ann 61 (.inLoop l12 :: .inBlock 12 :: K) ⟨t, 224, m⟩ = L12 (get t 1) (get t 4) (get t 5) (get t 12) (get t 13) (get t 154) (get t 155) (get t 156) m K := den_loop_again hf (id := 37) (l := [1, 4, 5, 12, 13, 154, 155, 156]) (by kernel_rfl) (by kernel_rfl) (.inBlock 12 :: K) _
theorem L12_eq (x1 x4 x5 x12 x13 x154 x155 x156 : AV) (m : Mem) (K : List Item) : L12 x1 x4 x5 x12 x13 x154 x155 x156 m K = den prog ann 61 (.code r37 :: .code i8 :: .code k13 :: .code r40 :: .inLoop l12 :: .inBlock 12 :: K) ⟨[(1, x1), (4, x4), (5, x5), (12, x12), (13, x13), (154, x154), (155, x155), (156, x156)], 224, m⟩ := den_flat hf (l := [r37, i8, k13, r40]) (by kernel_rfl) _ _
theorem r37_eq : den prog ann 61 (.code r37 :: K) s = mreg prog ann 61 (some [1, 4, 5, 12, 13, 154, 155, 156]) [] none [] [qB 157 (binA prog .lss 3) 156 155] K s := (den_reg hf _ K s).trans (by kernel_rfl)
theorem i8_eq : den prog ann 61 (.code i8 :: K) s = ifV prog ann 61 157 i8t i8e K s (s.get 157) := den_if hf (by kernel_rfl) K s
theorem i8t_eq : den prog ann 61 (.code i8t :: K) s = den prog ann 61 (K) s := den_flat hf (l := []) (by kernel_rfl) K s
theorem i8e_eq : den prog ann 61 (.code i8e :: K) s = den prog ann 61 (.code (.exit 12) :: K) s := den_flat hf (l := [(.exit 12)]) (by kernel_rfl) K s
theorem k13_eq : den prog ann 61 (.code k13 :: K) s = den prog ann 61 (.code r38 :: .code r39 :: .inBlock 13 :: K) s := den_blk hf (b := blkOf k13) (l := [r38, r39]) (by kernel_rfl) (by kernel_rfl) K s
theorem r38_eq : den prog ann 61 (.code r38 :: K) s = mreg prog ann 61 none [] none [17] [qB 158 (idxSl 4) 154 156,qA 159 (loadF true 4) 158,⟨some 17, none, .w false none fun s => newPtr s.m [.int .i64 0, .int .i64 0, .int .i64 0, .int .i64 0]⟩,⟨none, none, .w false none fun s => stA true 4 s.m (s.get 17) (s.get 159)⟩] K s := (den_reg hf _ K s).trans (by kernel_rfl)
theorem r39_draw : drawOk (fun g => (ann g).pure) (modeOf (ann 61) (idOf r39)) (frzOf (ann 61) (idOf r39)) (opsOf r39) = true := drawOk_of (an := [0, 0, 2, 0, 8, 24, 0, 0, 128, 64, 576, 1984, 4032, 0, 8192, 24576, 65472, 131008, 262143]) (by kernel_rfl) (by kernel_rfl)
theorem r39_eq : den prog ann 61 (.code r39 :: K) s = mreg prog ann 61 none [] (some 19) [] [qC 160 13,qA 161 (fieldA 2) 17,qA 162 (loadF false 1) 161,qA 163 (fieldA 3) 17,qA 164 (loadF false 1) 163,qF 165 fun s => binA prog .sub 3 (s.get 164) (.int .i64 1),qA 166 (loadF false 1) 5,qA 167 (fieldA 0) 17,qA 168 (loadF false 1) 167,qA 169 nilA 166,qA 170 (fieldA 5) 169,qB 171 (idxArr 4 1) 170 168,qF 172 fun s => loadA false 1 s.m (s.get 171),qA 173 (fieldA 1) 17,qA 174 (loadF false 1) 173,qF 175 fun s => binA prog .sub 3 (s.get 174) (.int .i64 1),qB 176 (idxSl 4) 172 175,qF 177 fun s => loadA true 4 s.m (s.get 176),⟨some 178, none, .c 0 (fun s => (s.get 160)) fun s => [(s.get 162), (s.get 165), (s.get 177)]⟩] K s := (den_regD hf r39_draw K s).trans (by kernel_rfl)
theorem r40_eq : den prog ann 61 (.code r40 :: K) s = mreg prog ann 61 (some [1, 4, 5, 12, 13, 154, 155, 156]) [] none [] [qF 179 fun s => binA prog .add 3 (s.get 156) (.int .i64 1),qC 156 179] K s := (den_reg hf _ K s).trans (by kernel_rfl)
theorem r41_eq : den prog ann 61 (.code r41 :: K) s = mreg prog ann 61 (some [1, 4, 5, 12]) [] none [] [qF 180 fun s => loadA false 1 s.m (s.get 12)] K s := (den_reg hf _ K s).trans (by kernel_rfl)
theorem r42_eq : den prog ann 61 (.code r42 :: K) s = mreg prog ann 61 none [] none [] [⟨some 12, none, .w false none fun s => newPtr s.m [.bool false]⟩,⟨none, none, .w false none fun s => stA false 1 s.m (s.get 12) (s.get 180)⟩] K s := (den_reg hf _ K s).trans (by kernel_rfl)
theorem r43_eq : den prog ann 61 (.code r43 :: K) s = mreg prog ann 61 (some [4, 5]) [] none [] [qA 181 (loadF false 1) 4,qF 182 fun s => some (.int .i64 0)] K s := (den_reg hf _ K s).trans (by kernel_rfl)
theorem k14_eq (K : List Item) (t : List (Nat × AV)) (m : Mem) : den prog ann 61 (.code k14 :: K) ⟨t, 224, m⟩ = L14 (get t 4) (get t 5) (get t 181) (get t 182) m K := den_loop_enter hf (b := l14) (id := 44) (l := [4, 5, 181, 182]) (by kernel_rfl) (by kernel_rfl) (by kernel_rfl) K _
theorem l14_eq (K : List Item) (t : List (Nat × AV)) (m : Mem) : den prog ann 61 (.inLoop l14 :: .inBlock 14 :: K) ⟨t, 224, m⟩ = L14 (get t 4) (get t 5) (get t 181) (get t 182) m K := den_loop_again hf (id := 44) (l := [4, 5, 181, 182]) (by kernel_rfl) (by kernel_rfl) (.inBlock 14 :: K) _
theorem L14_eq (x4 x5 x181 x182 : AV) (m : Mem) (K : List Item) : L14 x4 x5 x181 x182 m K = den prog ann 61 (.code r44 :: .code i9 :: .code k15 :: .code r58 :: .inLoop l14 :: .inBlock 14 :: K) ⟨[(4, x4), (5, x5), (181, x181), (182, x182)], 224, m⟩ := den_flat hf (l := [r44, i9, k15, r58]) (by kernel_rfl) _ _
theorem r44_eq : den prog ann 61 (.code r44 :: K) s = mreg prog ann 61 (some [4, 5, 181, 182]) [] none [] [qB 183 (binA prog .lss 3) 182 181] K s := (den_reg hf _ K s).trans (by kernel_rfl)
theorem i9_eq : den prog ann 61 (.code i9 :: K) s = ifV prog ann 61 183 i9t i9e K s (s.get 183) := den_if hf (by kernel_rfl) K s
theorem i9t_eq : den prog ann 61 (.code i9t :: K) s = den prog ann 61 (K) s := den_flat hf (l := []) (by kernel_rfl) K s
theorem i9e_eq : den prog ann 61 (.code i9e :: K) s = den prog ann 61 (.code (.exit 14) :: K) s := den_flat hf (l := [(.exit 14)]) (by kernel_rfl) K s
theorem k15_eq : den prog ann 61 (.code k15 :: K) s = den prog ann 61 (.code r45 :: .code r46 :: .code k16 :: .inBlock 15 :: K) s := den_blk hf (b := blkOf k15) (l := [r45, r46, k16]) (by kernel_rfl) (by kernel_rfl) K s
theorem r45_eq : den prog ann 61 (.code r45 :: K) s = mreg prog ann 61 none [] none [] [qC 184 182,qC 18 184] K s := (den_reg hf _ K s).trans (by kernel_rfl)
theorem r46_eq : den prog ann 61 (.code r46 :: K) s = mreg prog ann 61 none [] none [] [qA 185 (loadF false 1) 5,qC 186 18,qA 187 nilA 185,qA 188 (fieldA 5) 187,qB 189 (idxArr 4 1) 188 186,qF 190 fun s => loadA false 1 s.m (s.get 189),qA 191 lenSl 190,qF 192 fun s => some (.int .i64 0)] K s := (den_reg hf _ K s).trans (by kernel_rfl)
theorem k16_eq (K : List Item) (t : List (Nat × AV)) (m : Mem) : den prog ann 61 (.code k16 :: K) ⟨t, 224, m⟩ = L16 (get t 4) (get t 5) (get t 18) (get t 181) (get t 182) (get t 190) (get t 191) (get t 192) m K := den_loop_enter hf (b := l16) (id := 47) (l := [4, 5, 18, 181, 182, 190, 191, 192]) (by kernel_rfl) (by kernel_rfl) (by kernel_rfl) K _
theorem l16_eq (K : List Item) (t : List (Nat × AV)) (m : Mem) : den prog ann 61 (.inLoop l16 :: .inBlock 16 :: K) ⟨t, 224, m⟩ = L16 (get t 4) (get t 5) (get t 18) (get t 181) (get t 182) (get t 190) (get t 191) (get t 192) m K := den_loop_again hf (id := 47) (l := [4, 5, 18, 181, 182, 190, 191, 192]) (by kernel_rfl) (by kernel_rfl) (.inBlock 16 :: K) _
theorem L16_eq (x4 x5 x18 x181 x182 x190 x191 x192 : AV) (m : Mem) (K : List Item) : L16 x4 x5 x18 x181 x182 x190 x191 x192 m K = den prog ann 61 (.code r47 :: .code i10 :: .code k17 :: .code r57 :: .inLoop l16 :: .inBlock 16 :: K) ⟨[(4, x4), (5, x5), (18, x18), (181, x181), (182, x182), (190, x190), (191, x191), (192, x192)], 224, m⟩ := den_flat hf (l := [r47, i10, k17, r57]) (by kernel_rfl) _ _
theorem r47_eq : den prog ann 61 (.code r47 :: K) s = mreg prog ann 61 (some [4, 5, 18, 181, 182, 190, 191, 192]) [] none [] [qB 193 (binA prog .lss 3) 192 191] K s := (den_reg hf _ K s).trans (by kernel_rfl)
theorem i10_eq : den prog ann 61 (.code i10 :: K) s = ifV prog ann 61 193 i10t i10e K s (s.get 193) := den_if hf (by kernel_rfl) K s
theorem i10t_eq : den prog ann 61 (.code i10t :: K) s = den prog ann 61 (K) s := den_flat hf (l := []) (by kernel_rfl) K s
theorem i10e_eq : den prog ann 61 (.code i10e :: K) s = den prog ann 61 (.code (.exit 16) :: K) s := den_flat hf (l := [(.exit 16)]) (by kernel_rfl) K s
theorem k17_eq : den prog ann 61 (.code k17 :: K) s = den prog ann 61 (.code r48 :: .code r49 :: .code i11 :: .code r51 :: .code k18 :: .inBlock 17 :: K) s := den_blk hf (b := blkOf k17) (l := [r48, r49, i11, r51, k18]) (by kernel_rfl) (by kernel_rfl) K s
theorem r48_eq : den prog ann 61 (.code r48 :: K) s = mreg prog ann 61 none [] none [20] [qC 194 192,qB 195 (idxSl 4) 190 192,qF 196 fun s => loadA true 4 s.m (s.get 195),⟨some 20, none, .w false none fun s => newPtr s.m [.int .i64 0, .int .i64 0, .int .i64 0, .int .i64 0]⟩,qC 19 194,⟨none, none, .w false none fun s => stA true 4 s.m (s.get 20) (s.get 196)⟩] K s := (den_reg hf _ K s).trans (by kernel_rfl)
theorem r49_eq : den prog ann 61 (.code r49 :: K) s = mreg prog ann 61 none [] none [] [qC 197 18,qB 198 (idxArr 4 1) 20 197,qA 199 (loadF false 1) 198,qC 200 19,qF 201 fun s => binA prog .add 3 (s.get 200) (.int .i64 1),qB 202 (binA prog .neq 3) 199 201] K s := (den_reg hf _ K s).trans (by kernel_rfl)
theorem i11_eq : den prog ann 61 (.code i11 :: K) s = ifV prog ann 61 202 i11t i11e K s (s.get 202) := den_if hf (by kernel_rfl) K s
theorem i11t_eq : den prog ann 61 (.code i11t :: K) s = den prog ann 61 (.code r50 :: .code .ret :: K) s := den_flat hf (l := [r50, .ret]) (by kernel_rfl) K s
theorem r50_eq : den prog ann 61 (.code r50 :: K) s = mreg prog ann 61 none [] none [] [qF 2 fun s => some (.nilp),qF 3 fun s => some (.bool false)] K s := (den_reg hf _ K s).trans (by kernel_rfl)
theorem i11e_eq : den prog ann 61 (.code i11e :: K) s = den prog ann 61 (K) s := den_flat hf (l := []) (by kernel_rfl) K s
theorem r51_eq : den prog ann 61 (.code r51 :: K) s = mreg prog ann 61 none [] none [] [qA 203 (loadF false 1) 4,qF 204 fun s => some (.int .i64 0)] K s := (den_reg hf _ K s).trans (by kernel_rfl)
theorem k18_eq (K : List Item) (t : List (Nat × AV)) (m : Mem) : den prog ann 61 (.code k18 :: K) ⟨t, 224, m⟩ = L18 (get t 4) (get t 5) (get t 18) (get t 20) (get t 181) (get t 182) (get t 190) (get t 191) (get t 192) (get t 203) (get t 204) m K := den_loop_enter hf (b := l18) (id := 52) (l := [4, 5, 18, 20, 181, 182, 190, 191, 192, 203, 204]) (by kernel_rfl) (by kernel_rfl) (by kernel_rfl) K _
theorem l18_eq (K : List Item) (t : List (Nat × AV)) (m : Mem) : den prog ann 61 (.inLoop l18 :: .inBlock 18 :: K) ⟨t, 224, m⟩ = L18 (get t 4) (get t 5) (get t 18) (get t 20) (get t 181) (get t 182) (get t 190) (get t 191) (get t 192) (get t 203) (get t 204) m K := den_loop_again hf (id := 52) (l := [4, 5, 18, 20, 181, 182, 190, 191, 192, 203, 204]) (by kernel_rfl) (by kernel_rfl) (.inBlock 18 :: K) _
theorem L18_eq (x4 x5 x18 x20 x181 x182 x190 x191 x192 x203 x204 : AV) (m : Mem) (K : List Item) : L18 x4 x5 x18 x20 x181 x182 x190 x191 x192 x203 x204 m K = den prog ann 61 (.code r52 :: .code i12 :: .code k19 :: .code r56 :: .inLoop l18 :: .inBlock 18 :: K) ⟨[(4, x4), (5, x5), (18, x18), (20, x20), (181, x181), (182, x182), (190, x190), (191, x191), (192, x192), (203, x203), (204, x204)], 224, m⟩ := den_flat hf (l := [r52, i12, k19, r56]) (by kernel_rfl) _ _
theorem r52_eq : den prog ann 61 (.code r52 :: K) s = mreg prog ann 61 (some [4, 5, 18, 20, 181, 182, 190, 191, 192, 203, 204]) [] none [] [qB 205 (binA prog .lss 3) 204 203] K s := (den_reg hf _ K s).trans (by kernel_rfl)
theorem i12_eq : den prog ann 61 (.code i12 :: K) s = ifV prog ann 61 205 i12t i12e K s (s.get 205) := den_if hf (by kernel_rfl) K s
theorem i12t_eq : den prog ann 61 (.code i12t :: K) s = den prog ann 61 (K) s := den_flat hf (l := []) (by kernel_rfl) K s
theorem i12e_eq : den prog ann 61 (.code i12e :: K) s = den prog ann 61 (.code (.exit 18) :: K) s := den_flat hf (l := [(.exit 18)]) (by kernel_rfl) K s
theorem k19_eq : den prog ann 61 (.code k19 :: K) s = den prog ann 61 (.code r53 :: .code r54 :: .code i13 :: .inBlock 19 :: K) s := den_blk hf (b := blkOf k19) (l := [r53, r54, i13]) (by kernel_rfl) (by kernel_rfl) K s
theorem r53_eq : den prog ann 61 (.code r53 :: K) s = mreg prog ann 61 none [] none [] [qC 206 204,qC 21 206] K s := (den_reg hf _ K s).trans (by kernel_rfl)
theorem r54_draw : drawOk (fun g => (ann g).pure) (modeOf (ann 61) (idOf r54)) (frzOf (ann 61) (idOf r54)) (opsOf r54) = true := drawOk_of (an := [0, 0, 3, 7, 15, 15, 31, 95, 255, 511, 15, 2047, 4095]) (by kernel_rfl) (by kernel_rfl)
theorem r54_eq : den prog ann 61 (.code r54 :: K) s = mreg prog ann 61 none [] (some 13) [] [qC 207 21,qC 208 18,qB 209 (binA prog .neq 3) 207 208,qC 210 209,⟨some 211, some (210, true), .v fun s => loadF false 1 (s.get 5)⟩,⟨some 212, some (210, true), .v fun s => some (s.get 21)⟩,⟨some 213, some (210, true), .v fun s => nilA (s.get 211)⟩,⟨some 214, some (210, true), .v fun s => fieldA 5 (s.get 213)⟩,⟨some 215, some (210, true), .v fun s => idxArr 4 1 (s.get 214) (s.get 212)⟩,⟨some 216, some (210, true), .v fun s => loadA false 1 s.m (s.get 215)⟩,⟨some 217, some (210, true), .v fun s => loadF true 4 (s.get 20)⟩,⟨some 218, some (210, true), .c 0 (fun s => (.fn 96 [] [])) fun s => [(s.get 216), (s.get 217)]⟩,qF 219 fun s => pickA (s.get 210) (s.get 218) (.bool false)] K s := (den_regD hf r54_draw K s).trans (by kernel_rfl)
theorem i13_eq : den prog ann 61 (.code i13 :: K) s = ifV prog ann 61 219 i13t i13e K s (s.get 219) := den_if hf (by kernel_rfl) K s
theorem i13t_eq : den prog ann 61 (.code i13t :: K) s = den prog ann 61 (.code r55 :: .code .ret :: K) s := den_flat hf (l := [r55, .ret]) (by kernel_rfl) K s
theorem r55_eq : den prog ann 61 (.code r55 :: K) s = mreg prog ann 61 none [] none [] [qF 2 fun s => some (.nilp),qF 3 fun s => some (.bool false)] K s := (den_reg hf _ K s).trans (by kernel_rfl)
theorem i13e_eq : den prog ann 61 (.code i13e :: K) s = den prog ann 61 (K) s := den_flat hf (l := []) (by kernel_rfl) K s
theorem r56_eq : den prog ann 61 (.code r56 :: K) s = mreg prog ann 61 (some [4, 5, 18, 20, 181, 182, 190, 191, 192, 203, 204]) [] none [] [qF 220 fun s => binA prog .add 3 (s.get 204) (.int .i64 1),qC 204 220] K s := (den_reg hf _ K s).trans (by kernel_rfl)
theorem r57_eq : den prog ann 61 (.code r57 :: K) s = mreg prog ann 61 (some [4, 5, 18, 181, 182, 190, 191, 192]) [] none [] [qF 221 fun s => binA prog .add 3 (s.get 192) (.int .i64 1),qC 192 221] K s := (den_reg hf _ K s).trans (by kernel_rfl)
theorem r58_eq : den prog ann 61 (.code r58 :: K) s = mreg prog ann 61 (some [4, 5, 181, 182]) [] none [] [qF 222 fun s => binA prog .add 3 (s.get 182) (.int .i64 1),qC 182 222] K s := (den_reg hf _ K s).trans (by kernel_rfl)
theorem r59_eq : den prog ann 61 (.code r59 :: K) s = mreg prog ann 61 (some [5]) [] none [] [qA 223 (loadF false 1) 5,qC 2 223,qF 3 fun s => some (.bool true)] K s := (den_reg hf _ K s).trans (by kernel_rfl)
theorem ret_eq : den prog ann 61 (.code .ret :: K) s = finM true [fun s => some (s.get 2), fun s => some (s.get 3)] s := (den_ret hf K s).trans (by kernel_rfl)
theorem nil_eq (s : St) : den prog ann 61 [] s = finM true [fun s => some (s.get 2), fun s => some (s.get 3)] s := (den_nil hf s).trans (by kernel_rfl)
theorem inBlock_eq (id : Nat) (K : List Item) (s : St) : den prog ann 61 (.inBlock id :: K) s = den prog ann 61 K s := den_inBlock hf id K s
theorem exit_eq (id : Nat) (K : List Item) (s : St) : den prog ann 61 (.code (.exit id) :: K) s = exitV prog ann 61 (exitTo id K) s := den_exitV hf id K s
theorem call_eq (v0 : AV) (m : Mem) (h : closedL [v0] = true) : denC prog ann 61 [v0] m = (den prog ann 61 [.code b] ⟨[(0, v0)], 224, Mem.empty⟩).bind fun r => some (r.1, m) := (denC_pure hf (b := b) (by kernel_rfl) (by kernel_rfl) (by kernel_rfl) h m).trans (by kernel_rfl)
theorem pure_eq : (ann 61).pure = true := by kernel_rfl
attribute [simp] b_eq r0_eq r1_eq r2_eq i0_eq i0t_eq r3_eq i0e_eq r4_eq r5_eq r6_eq r7_eq k0_eq l0_eq r8_eq i1_eq i1t_eq i1e_eq k1_eq r9_eq r10_eq i2_eq i2t_eq r11_eq i2e_eq r12_eq r13_eq k2_eq l2_eq r14_eq i3_eq i3t_eq i3e_eq k3_eq r15_eq r16_eq k4_eq l4_eq r17_eq i4_eq i4t_eq i4e_eq k5_eq r18_eq r19_eq r20_eq r21_eq r22_eq r23_eq r24_eq k6_eq l6_eq r25_eq i5_eq i5t_eq i5e_eq k7_eq r26_eq r27_eq r28_eq k8_eq l8_eq r29_eq i6_eq i6t_eq i6e_eq k9_eq r30_eq r31_eq k10_eq l10_eq r32_eq i7_eq i7t_eq i7e_eq k11_eq r34_eq r33_eq r35_eq r36_eq k12_eq l12_eq r37_eq i8_eq i8t_eq i8e_eq k13_eq r38_eq r39_eq r40_eq r41_eq r42_eq r43_eq k14_eq l14_eq r44_eq i9_eq i9t_eq i9e_eq k15_eq r45_eq r46_eq k16_eq l16_eq r47_eq i10_eq i10t_eq i10e_eq k17_eq r48_eq r49_eq i11_eq i11t_eq r50_eq i11e_eq r51_eq k18_eq l18_eq r52_eq i12_eq i12t_eq i12e_eq k19_eq r53_eq r54_eq i13_eq i13t_eq r55_eq i13e_eq r56_eq r57_eq r58_eq r59_eq ret_eq nil_eq inBlock_eq exit_eq pure_eq
end
end watch_read
namespace watch_story_all_1
noncomputable section
variable (K : List Item) (s : St)
def b : Code := (Try.f97.body).getD .skip
theorem hf : prog.funcs[97]? = some Try.f97 := by kernel_rfl
def r0 := findReg b 0
def r1 := findReg b 1
def i0 := findCond b 0
def i0t := thenOf i0
def i0e := elseOf i0
def r2 := findReg b 2
def i1 := findCond b 1
def i1t := thenOf i1
def i1e := elseOf i1
def r3 := findReg b 3
def r4 := findReg b 4
def k0 := findBlk b 0
def l0 := loopOf k0
def L0 (x1 x2 x4 x5 x7 : AV) (m : Mem) (K : List Item) : Option Res := den prog ann 97 (.code l0 :: .inLoop l0 :: .inBlock 0 :: K) ⟨[(1, x1), (2, x2), (4, x4), (5, x5), (7, x7)], 39, m⟩
def r5 := findReg b 5
def i2 := findCond b 2
def i2t := thenOf i2
def i2e := elseOf i2
def k1 := findBlk b 1
def r7 := findReg b 7
def r8 := findReg b 8
def r6 := findReg b 6
theorem b_eq : den prog ann 97 (.code b :: K) s = den prog ann 97 (.code r0 :: .code r1 :: .code i0 :: .code r4 :: .code k0 :: K) s := den_flat hf (l := [r0, r1, i0, r4, k0]) (by kernel_rfl) K s
theorem r0_eq : den prog ann 97 (.code r0 :: K) s = mreg prog ann 97 none [] none [] [⟨some 5, none, .w false none fun s => newPtr s.m (AV.cells (s.get 0))⟩] K s := (den_reg hf _ K s).trans (by kernel_rfl)
theorem r1_eq : den prog ann 97 (.code r1 :: K) s = mreg prog ann 97 none [] none [] [qC 8 1,qF 9 fun s => loadA false 1 s.m (s.get 2),qA 10 nilA 9,qA 11 (fieldA 0) 10,qF 12 fun s => loadA false 1 s.m (s.get 11),qB 13 (binA prog .eql 3) 8 12] K s := (den_reg hf _ K s).trans (by kernel_rfl)
theorem i0_eq : den prog ann 97 (.code i0 :: K) s = ifV prog ann 97 13 i0t i0e K s (s.get 13) := den_if hf (by kernel_rfl) K s
theorem i0t_eq : den prog ann 97 (.code i0t :: K) s = den prog ann 97 (.code r2 :: .code i1 :: .code .ret :: K) s := den_flat hf (l := [r2, i1, .ret]) (by kernel_rfl) K s
theorem r2_eq : den prog ann 97 (.code r2 :: K) s = mreg prog ann 97 none [] none [] [qF 14 fun s => loadA false 1 s.m (s.get 2),qF 15 fun s => loadA true 4 s.m (s.get 5),⟨some 16, none, .c 0 (fun s => (.fn 72 [] [])) fun s => [(s.get 14), (s.get 15)]⟩] K s := (den_reg hf _ K s).trans (by kernel_rfl)
theorem i1_eq : den prog ann 97 (.code i1 :: K) s = ifV prog ann 97 16 i1t i1e K s (s.get 16) := den_if hf (by kernel_rfl) K s
theorem i1t_eq : den prog ann 97 (.code i1t :: K) s = den prog ann 97 (.code r3 :: K) s := den_flat hf (l := [r3]) (by kernel_rfl) K s
theorem r3_eq : den prog ann 97 (.code r3 :: K) s = mreg prog ann 97 none [] none [] [qF 17 fun s => loadA false 1 s.m (s.get 3),qF 18 fun s => loadA true 4 s.m (s.get 5),qF 19 fun s => bslF 1 (bslA 4 1 [.int .i64 0, .int .i64 0, .int .i64 0, .int .i64 0] [(0, (s.get 18))]),⟨some 20, none, .w false none fun s => appendA 4 32 s.m (s.get 17) (s.get 19)⟩,⟨none, none, .w false none fun s => stA false 1 s.m (s.get 3) (s.get 20)⟩] K s := (den_reg hf _ K s).trans (by kernel_rfl)
theorem i1e_eq : den prog ann 97 (.code i1e :: K) s = den prog ann 97 (K) s := den_flat hf (l := []) (by kernel_rfl) K s
theorem i0e_eq : den prog ann 97 (.code i0e :: K) s = den prog ann 97 (K) s := den_flat hf (l := []) (by kernel_rfl) K s
theorem r4_eq : den prog ann 97 (.code r4 :: K) s = mreg prog ann 97 none [] none [] [qF 7 fun s => some (.int .i64 0)] K s := (den_reg hf _ K s).trans (by kernel_rfl)
theorem k0_eq (K : List Item) (t : List (Nat × AV)) (m : Mem) : den prog ann 97 (.code k0 :: K) ⟨t, 39, m⟩ = L0 (get t 1) (get t 2) (get t 4) (get t 5) (get t 7) m K := den_loop_enter hf (b := l0) (id := 5) (l := [1, 2, 4, 5, 7]) (by kernel_rfl) (by kernel_rfl) (by kernel_rfl) K _
theorem l0_eq (K : List Item) (t : List (Nat × AV)) (m : Mem) : den prog ann 97 (.inLoop l0 :: .inBlock 0 :: K) ⟨t, 39, m⟩ = L0 (get t 1) (get t 2) (get t 4) (get t 5) (get t 7) m K := den_loop_again hf (id := 5) (l := [1, 2, 4, 5, 7]) (by kernel_rfl) (by kernel_rfl) (.inBlock 0 :: K) _
theorem L0_eq (x1 x2 x4 x5 x7 : AV) (m : Mem) (K : List Item) : L0 x1 x2 x4 x5 x7 m K = den prog ann 97 (.code r5 :: .code i2 :: .code k1 :: .code r6 :: .inLoop l0 :: .inBlock 0 :: K) ⟨[(1, x1), (2, x2), (4, x4), (5, x5), (7, x7)], 39, m⟩ := den_flat hf (l := [r5, i2, k1, r6]) (by kernel_rfl) _ _
theorem r5_eq : den prog ann 97 (.code r5 :: K) s = mreg prog ann 97 (some [1, 2, 4, 5, 7]) [] none [] [qC 21 7,qF 22 fun s => loadA false 1 s.m (s.get 2),qC 23 1,qA 24 nilA 22,qA 25 (fieldA 1) 24,qB 26 (idxArr 4 1) 25 23,qF 27 fun s => loadA false 1 s.m (s.get 26),qB 28 (binA prog .leq 3) 21 27] K s := (den_reg hf _ K s).trans (by kernel_rfl)
theorem i2_eq : den prog ann 97 (.code i2 :: K) s = ifV prog ann 97 28 i2t i2e K s (s.get 28) := den_if hf (by kernel_rfl) K s
theorem i2t_eq : den prog ann 97 (.code i2t :: K) s = den prog ann 97 (K) s := den_flat hf (l := []) (by kernel_rfl) K s
theorem i2e_eq : den prog ann 97 (.code i2e :: K) s = den prog ann 97 (.code (.exit 0) :: K) s := den_flat hf (l := [(.exit 0)]) (by kernel_rfl) K s
theorem k1_eq : den prog ann 97 (.code k1 :: K) s = den prog ann 97 (.code r7 :: .code r8 :: .inBlock 1 :: K) s := den_blk hf (b := blkOf k1) (l := [r7, r8]) (by kernel_rfl) (by kernel_rfl) K s
theorem r7_eq : den prog ann 97 (.code r7 :: K) s = mreg prog ann 97 none [] none [] [qC 31 1,qC 32 7,qB 33 (idxArr 4 1) 5 31,⟨none, none, .w false none fun s => stA false 1 s.m (s.get 33) (s.get 32)⟩] K s := (den_reg hf _ K s).trans (by kernel_rfl)
theorem r8_eq : den prog ann 97 (.code r8 :: K) s = mreg prog ann 97 none [] none [] [qF 34 fun s => loadA false 1 s.m (s.get 4),qF 35 fun s => loadA true 4 s.m (s.get 5),qC 36 1,qF 37 fun s => binA prog .add 3 (s.get 36) (.int .i64 1),⟨some 38, none, .c 0 (fun s => (s.get 34)) fun s => [(s.get 35), (s.get 37)]⟩] K s := (den_reg hf _ K s).trans (by kernel_rfl)
theorem r6_eq : den prog ann 97 (.code r6 :: K) s = mreg prog ann 97 (some [1, 2, 4, 5, 7]) [] none [] [qC 29 7,qF 30 fun s => binA prog .add 3 (s.get 29) (.int .i64 1),qC 7 30] K s := (den_reg hf _ K s).trans (by kernel_rfl)
theorem ret_eq : den prog ann 97 (.code .ret :: K) s = finM false [] s := (den_ret hf K s).trans (by kernel_rfl)
theorem nil_eq (s : St) : den prog ann 97 [] s = finM false [] s := (den_nil hf s).trans (by kernel_rfl)
theorem inBlock_eq (id : Nat) (K : List Item) (s : St) : den prog ann 97 (.inBlock id :: K) s = den prog ann 97 K s := den_inBlock hf id K s
theorem exit_eq (id : Nat) (K : List Item) (s : St) : den prog ann 97 (.code (.exit id) :: K) s = exitV prog ann 97 (exitTo id K) s := den_exitV hf id K s
theorem call_eq (v0 v1 v2 v3 v4 : AV) (m : Mem) : denC prog ann 97 [v0, v1, v2, v3, v4] m = den prog ann 97 [.code b] ⟨[(0, v0), (1, v1), (2, v2), (3, v3), (4, v4)], 39, m⟩ := (denC_impure hf (b := b) (by kernel_rfl) (by kernel_rfl) (by kernel_rfl) m).trans (by kernel_rfl)
theorem pure_eq : (ann 97).pure = false := by kernel_rfl
attribute [simp] b_eq r0_eq r1_eq i0_eq i0t_eq r2_eq i1_eq i1t_eq r3_eq i1e_eq i0e_eq r4_eq k0_eq l0_eq r5_eq i2_eq i2t_eq i2e_eq k1_eq r7_eq r8_eq r6_eq ret_eq nil_eq inBlock_eq exit_eq pure_eq
end
end watch_story_all_1
namespace watch_story_all
noncomputable section
variable (K : List Item) (s : St)
def b : Code := (Try.f62.body).getD .skip
theorem hf : prog.funcs[62]? = some Try.f62 := by kernel_rfl
def r0 := findReg b 0
def r1 := findReg b 1
def r2 := findReg b 2
def r3 := findReg b 3
def r4 := findReg b 4
def r5 := findReg b 5
theorem b_eq : den prog ann 62 (.code b :: K) s = den prog ann 62 (.code r0 :: .code r1 :: .code r2 :: .code r3 :: .code r4 :: .code r5 :: .code .ret :: K) s := den_flat hf (l := [r0, r1, r2, r3, r4, r5, .ret]) (by kernel_rfl) K s
theorem r0_eq : den prog ann 62 (.code r0 :: K) s = mreg prog ann 62 none [] none [] [qA 1 frozenPtr 0,qF 2 fun s => some (.nils)] K s := (den_reg hf _ K s).trans (by kernel_rfl)
theorem r1_eq : den prog ann 62 (.code r1 :: K) s = mreg prog ann 62 none [] none [] [⟨some 3, none, .w false none fun s => newPtr s.m [.nils]⟩] K s := (den_reg hf _ K s).trans (by kernel_rfl)
theorem r2_eq : den prog ann 62 (.code r2 :: K) s = mreg prog ann 62 none [] none [] [⟨some 4, none, .w false none fun s => newPtr s.m [.nilf]⟩] K s := (den_reg hf _ K s).trans (by kernel_rfl)
theorem r3_eq : den prog ann 62 (.code r3 :: K) s = mreg prog ann 62 none [] none [] [qF 5 fun s => some (.fn 97 [] [(s.get 1), (s.get 3), (s.get 4)]),⟨none, none, .w false none fun s => stA false 1 s.m (s.get 4) (s.get 5)⟩] K s := (den_reg hf _ K s).trans (by kernel_rfl)
theorem r4_eq : den prog ann 62 (.code r4 :: K) s = mreg prog ann 62 none [] none [] [qF 6 fun s => loadA false 1 s.m (s.get 4),qF 7 fun s => bldA (plcA 1) [.int .i64 0, .int .i64 0, .int .i64 0, .int .i64 0] [],⟨some 8, none, .c 0 (fun s => (s.get 6)) fun s => [(s.get 7), (.int .i64 0)]⟩] K s := (den_reg hf _ K s).trans (by kernel_rfl)
theorem r5_eq : den prog ann 62 (.code r5 :: K) s = mreg prog ann 62 none [] none [] [qF 9 fun s => loadA false 1 s.m (s.get 3),qC 2 9] K s := (den_reg hf _ K s).trans (by kernel_rfl)
theorem ret_eq : den prog ann 62 (.code .ret :: K) s = finM true [fun s => some (s.get 2)] s := (den_ret hf K s).trans (by kernel_rfl)
theorem nil_eq (s : St) : den prog ann 62 [] s = finM true [fun s => some (s.get 2)] s := (den_nil hf s).trans (by kernel_rfl)
theorem inBlock_eq (id : Nat) (K : List Item) (s : St) : den prog ann 62 (.inBlock id :: K) s = den prog ann 62 K s := den_inBlock hf id K s
theorem exit_eq (id : Nat) (K : List Item) (s : St) : den prog ann 62 (.code (.exit id) :: K) s = exitV prog ann 62 (exitTo id K) s := den_exitV hf id K s
theorem call_eq (v0 : AV) (m : Mem) (h : closedL [v0] = true) : denC prog ann 62 [v0] m = (den prog ann 62 [.code b] ⟨[(0, v0)], 10, Mem.empty⟩).bind fun r => some (r.1, m) := (denC_pure hf (b := b) (by kernel_rfl) (by kernel_rfl) (by kernel_rfl) h m).trans (by kernel_rfl)
theorem pure_eq : (ann 62).pure = true := by kernel_rfl
attribute [simp] b_eq r0_eq r1_eq r2_eq r3_eq r4_eq r5_eq ret_eq nil_eq inBlock_eq exit_eq pure_eq
end
end watch_story_all
end Go.Proofs.Ytdkmepjedjclkaa

/-
  WHAT THE PROGRAM's FUNCTIONS ON CUTS COMPUTE. Conditions: none.
-/
namespace Go.Proofs.Ytdkmepjedjclkaa
open Go.AM
open Go.Proofs.Try (prog)
set_option linter.all false
set_option maxRecDepth 10000
theorem four {c : List Int} (h : c.length = 4) : ∃ a0 a1 a2 a3, c = [a0, a1, a2, a3] := by
  match c, h with
  | [a0, a1, a2, a3], _ => exact ⟨a0, a1, a2, a3, rfl⟩
def zmax (a b : List Int) : List Int := List.zipWith max a b
def zmin (a b : List Int) : List Int := List.zipWith min a b
theorem join_spec {a b : List Int} (ha : a.length = 4) (hb : b.length = 4) (m : Mem) : denC prog ann 91 [.agg (ints a), .agg (ints b)] m = some (.agg (ints (zmax a b)), m) := by
  obtain ⟨a0, a1, a2, a3, rfl⟩ := four ha
  obtain ⟨b0, b1, b2, b3, rfl⟩ := four hb
  rw [watch_join.call_eq _ _ _ (by simp)]
  simp [watch_join.L0_eq, zmax]
@[simp] theorem zmax_len {a b : List Int} (ha : a.length = 4) (hb : b.length = 4) : (zmax a b).length = 4 := by simp [zmax, ha, hb]
theorem flat99 : flatT prog 99 = some [3, 3, 3, 3] := by kernel_rfl
theorem und3 : prog.underlying 3 = some (.int .i64) := by kernel_rfl
theorem eqCs_ints : ∀ (n : Nat) (a b : List Int), a.length = n → b.length = n → eqCs prog (List.replicate n 3) (ints a) (ints b) = some (decide (a = b))
  | 0, a, b, ha, hb => by
    have : a = [] := by simpa using ha
    have : b = [] := by simpa using hb
    subst a b; rfl
  | n + 1, a, b, ha, hb => by
    match a, b, ha, hb with
    | x :: a, y :: b, ha, hb =>
      have ih := eqCs_ints n a b (by simpa using ha) (by simpa using hb)
      simp only [List.replicate, ints_cons, eqCs, scV, und3, eqSc]
      by_cases h : x = y
      · subst h; simp [ih]
      · have : (x == y) = false := by simpa using h
        simp [this, h]
theorem eql99 {a b : List Int} (ha : a.length = 4) (hb : b.length = 4) : binA prog .eql 99 (.agg (ints a)) (.agg (ints b)) = some (.bool (decide (a = b))) := by
  have h := eqCs_ints 4 a b ha hb
  simp only [binA, eqT, eqA, flat99, Option.bind_some, cond_true, ints_len, ha, hb]
  simp only [List.replicate] at h
  simp [h]
theorem neq99 {a b : List Int} (ha : a.length = 4) (hb : b.length = 4) : binA prog .neq 99 (.agg (ints a)) (.agg (ints b)) = some (.bool (!decide (a = b))) := by
  have h := eql99 ha hb
  simp only [binA, eqT, cond_true] at h ⊢
  cases hq : eqA prog 99 (.agg (ints a)) (.agg (ints b)) with
  | none => rw [hq] at h; cases h
  | some q => rw [hq] at h; simp at h; simp [h]
theorem index_loop {v : AV} {l : List (List Int)} {c : List Int} (h : IsSl ints v l) (hf : Four l) (hc : c.length = 4) (hl : l.length < 1073741824) : ∀ (n i : Nat) (m : Mem), l.length - i ≤ n → i ≤ l.length →
    slices_Index_cut.L0 v (.fptr (ints c)) (.int .i64 l.length) (.int .i64 i) m [.code slices_Index_cut.r7, .code .ret] = some (.int .i64 (match (l.drop i).findIdx? (fun d => c == d) with | some j => ((i + j : Nat) : Int) | none => -1), Mem.empty) := by
  intro n
  induction n with
  | zero =>
    intro i m h1 h2
    rw [slices_Index_cut.L0_eq]
    have e : i = l.length := by omega
    subst e
    simp
  | succ n ih =>
    intro i m h1 h2
    rw [slices_Index_cut.L0_eq]
    by_cases h3 : i < l.length
    · have hld := load_cut hf h3
      have hcc := load_ints (r := []) hc
      simp only [List.append_nil] at hcc
      simp [h3, h.idx hf.cells h3, hld, hcc, eql99 hc (hf _ (cth_mem h3))]
      rw [List.drop_eq_getElem_cons h3, List.findIdx?_cons]
      have e : l[i] = cth l i := by simp [cth, List.getD, List.getElem?_eq_getElem h3]
      rw [e]
      by_cases h4 : c = cth l i
      · simp [h4]
      · have h5 : (c == cth l i) = false := by simpa using h4
        simp [h4, h5]
        have := ih (i + 1) ⟨m.h, m.nx + 6⟩ (by omega) (by omega)
        simp at this
        rw [wrap_id (by omega) (by omega), this]
        cases hq : List.findIdx? (fun d => c == d) (List.drop (i + 1) l) with
        | none => simp
        | some j => simp; omega
    · have e : i = l.length := by omega
      subst e
      simp
theorem index_spec {v : AV} {l : List (List Int)} {c : List Int} (h : IsSl ints v l) (hf : Four l) (hc : c.length = 4) (hl : l.length < 1073741824) (m : Mem) :
    denC prog ann 81 [v, .agg (ints c)] m = some (.int .i64 (match l.findIdx? (fun d => c == d) with | some j => (j : Int) | none => -1), m) := by
  rw [slices_Index_cut.call_eq _ _ _ (by simp [h.closed])]
  have := index_loop h hf hc hl _ 0 Mem.empty (Nat.le_refl _) (by omega)
  simp at this
  simp [h.len, this]
theorem contains_spec {v : AV} {l : List (List Int)} {c : List Int} (h : IsSl ints v l) (hf : Four l) (hc : c.length = 4) (hl : l.length < 1073741824) (m : Mem) :
    denC prog ann 96 [v, .agg (ints c)] m = some (.bool (decide (c ∈ l)), m) := by
  rw [slices_Contains_cut.call_eq _ _ _ (by simp [h.closed])]
  have hcc := load_ints (r := []) hc
  simp only [List.append_nil] at hcc
  simp [hcc, h.closed, index_spec h hf hc hl]
  cases hq : List.findIdx? (fun d => c == d) l with
  | none =>
    rw [List.findIdx?_eq_none_iff] at hq
    have : c ∉ l := fun hm => by simpa using hq c hm
    simp [this]
  | some j =>
    rw [List.findIdx?_eq_some_iff_getElem] at hq
    obtain ⟨h1, h2, _⟩ := hq
    have : c ∈ l := by rw [eq_of_beq h2]; exact List.getElem_mem h1
    simp [this]
end Go.Proofs.Ytdkmepjedjclkaa

/-
  A STORY MADE OF ARBITRARY NUMBERS (2): one message. Conditions: none.
-/
namespace Go.Proofs.Ytdkmepjedjclkaa
open Go.AM
open Go.Proofs.Try (prog)
set_option linter.all false
set_option maxRecDepth 100000
set_option maxHeartbeats 4000000
structure SN (m : Mem) (D : List Int) (vN : AV) (N : List Note) : Prop where
  r : m.h 0 = some (.cells [.nils, .nils])
  s : ∃ id, m.h 1 = some (.cells [.sl id 1 0 D.length D.length, vN]) ∧ m.h id = some (.cells (ints D)) ∧ 2 ≤ id ∧ id < m.nx
  n : IsSl noteC vN N
  v : ValidS D N
  few : N.length ≤ 12
end Go.Proofs.Ytdkmepjedjclkaa

/-
  WHAT THE PROGRAM's METHODS ON STORIES COMPUTE: list, forth, consistent. Conditions: none.
-/
namespace Go.Proofs.Ytdkmepjedjclkaa
open Go.AM
open Go.Proofs.Try (prog)
set_option linter.all false
set_option maxRecDepth 10000
def vth (V : List AV) (i : Nat) : AV := V.getD i .undef
theorem vth_eq {V : List AV} {i : Nat} (h : i < V.length) : V[i]? = some (vth V i) := by
  rw [List.getElem?_eq_getElem h]; simp [vth, List.getD, List.getElem?_eq_getElem h]
theorem vth_head {V : List AV} {i : Nat} (h : i < V.length) : (V.drop i).head? = some (vth V i) := by rw [List.head?_drop, vth_eq h]
def kth (K : List (List (List Int))) (h : Nat) : List (List Int) := K.getD h []
abbrev clk (K : List (List (List Int))) (h i : Nat) : List Int := cth (kth K h) i
structure IsStory (v : AV) (n : Nat) (D : List Int) (K : List (List (List Int))) : Prop where
  V : ∃ V, v = .fptr (.int .i64 n :: (ints D ++ V)) ∧ V.length = 4 ∧ ∀ h, h < 4 → IsSl ints (vth V h) (kth K h)
  D4 : D.length = 4
  n4 : n ≤ 4
  n1 : 1 ≤ n
  four : ∀ h, Four (kth K h)
  few : ∀ h, (kth K h).length ≤ 6
  rows : ∀ h, h < n → ((kth K h).length : Int) = nth D h
  zero : ∀ h, n ≤ h → nth D h = 0
  pos : ∀ h, 0 ≤ nth D h
theorem IsStory.D6 {v : AV} {n : Nat} {D : List Int} {K : List (List (List Int))} (s : IsStory v n D K) (h : Nat) : nth D h ≤ 6 := by
  rcases Nat.lt_or_ge h n with h1 | h1
  · have := s.rows h h1; have := s.few h; omega
  · have := s.zero h h1; omega
structure IsCut (n : Nat) (D : List Int) (c : List Int) : Prop where
  len : c.length = 4
  lo : ∀ h, 0 ≤ nth c h
  hi : ∀ h, nth c h ≤ nth D h
def forthR (K : List (List (List Int))) (c : List Int) : Nat → Nat → List Int → List Int
  | 0, _, out => out
  | k + 1, h, out => forthR K c k (h + 1) (if 0 < nth c h then zmax out (clk K h ((nth c h).toNat - 1)) else out)
theorem forth_loop {V : List AV} {n : Nat} {D : List Int} {K : List (List (List Int))} (hV : V.length = 4) (hS : ∀ h, h < 4 → IsSl ints (vth V h) (kth K h)) {v : AV} (s : IsStory v n D K) {c : List Int} (hc : IsCut n D c) : ∀ (k h : Nat) (out : List Int) (nx : Nat), h + k = n → out.length = 4 →
    watch_story_forth.L0 (.fptr (.int .i64 n :: (ints D ++ V))) (.fptr (ints c)) (.ptr 0 0 4) (.ptr 1 0 4) (.int .i64 n) (.int .i64 h) ⟨upd (upd Mem.empty.h 0 (some (.cells (ints [0, 0, 0, 0])))) 1 (some (.cells (ints out))), nx⟩ [.code watch_story_forth.r8, .code .ret] =
      some (.agg (ints (forthR K c k h out)), Mem.empty) := by
  intro k
  induction k with
  | zero =>
    intro h out nx hk ho
    have e : h = n := by omega
    subst e
    rw [watch_story_forth.L0_eq]
    have ht : out.take 4 = out := List.take_of_length_le (by omega)
    simp [forthR, ho, ht]
  | succ k ih =>
    intro h out nx hk ho
    rw [watch_story_forth.L0_eq]
    have h1 : h < n := by omega
    have hn := s.n4
    have hD := s.D4
    have hl := hc.len
    have h4 : h < c.length := by omega
    have h4' : h < 4 := by omega
    have hi := hc.hi h
    have h6 := s.D6 h
    have hr := s.rows h h1
    have ht : out.take 4 = out := List.take_of_length_le (by omega)
    have hw : IntKind.wrap .i64 ((h : Int) + 1) = (h : Int) + 1 := wrap_id (by omega) (by omega)
    simp [h1, hl, ints_head h4, h4']
    by_cases h2 : 0 < nth c h
    · have h7 : IntKind.wrap .i64 (nth c h - 1) = (((nth c h).toNat - 1 : Nat) : Int) := by rw [wrap_id (by omega) (by omega)]; omega
      have h8 : (nth c h).toNat - 1 < (kth K h).length := by omega
      have h9 : (clk K h ((nth c h).toNat - 1)).length = 4 := s.four h _ (cth_mem h8)
      have hz := zmax_len ho h9
      simp [h2, ho, hD, h4', vth_head (show h < V.length by omega), ints_head h4, h7, (hS h h4').idx (s.four h).cells h8, load_cut (s.four h) h8, ht]
      have hd : out.drop 4 = [] := List.drop_of_length_le (by omega)
      simp only [clk] at hz
      simp [join_spec ho (s.four h _ (cth_mem h8)), hw, hz, ho, hd]
      have := ih (h + 1) (zmax out (cth (kth K h) ((nth c h).toNat - 1))) (nx + 15) (by omega) hz
      simp at this
      simp [this, forthR, h2]
    · simp [h2, hw]
      have := ih (h + 1) out nx (by omega) ho
      simp at this
      simp [this, forthR, h2]
def forthL (K : List (List (List Int))) (n : Nat) (c : List Int) : List Int := forthR K c n 0 c
theorem forth_spec {v : AV} {n : Nat} {D : List Int} {K : List (List (List Int))} (s : IsStory v n D K) {c : List Int} (hc : IsCut n D c) (m : Mem) :
    denC prog ann 70 [v, .agg (ints c)] m = some (.agg (ints (forthL K n c)), m) := by
  obtain ⟨V, rfl, hV, hS⟩ := s.V
  rw [watch_story_forth.call_eq _ _ _ (by simp)]
  have hl := hc.len
  have ht : c.take 4 = c := List.take_of_length_le (by omega)
  have := forth_loop hV hS s hc n 0 c 2 (by omega) hl
  simp at this
  simp [hl, ht, this, forthL, show c.drop 4 = [] from List.drop_of_length_le (by omega)]
theorem forthR_len {v : AV} {n : Nat} {D : List Int} {K : List (List (List Int))} (s : IsStory v n D K) {c : List Int} (hc : IsCut n D c) : ∀ (k h : Nat) (out : List Int), h + k ≤ n → out.length = 4 → (forthR K c k h out).length = 4
  | 0, _, _, _, ho => ho
  | k + 1, h, out, hk, ho => by
    refine forthR_len s hc k (h + 1) _ (by omega) ?_
    split
    · rename_i h2
      have := s.rows h (by omega); have := hc.hi h
      exact zmax_len ho (s.four h _ (cth_mem (by omega)))
    · exact ho
theorem consistent_spec {v : AV} {n : Nat} {D : List Int} {K : List (List (List Int))} (s : IsStory v n D K) {c : List Int} (hc : IsCut n D c) (m : Mem) :
    denC prog ann 72 [v, .agg (ints c)] m = some (.bool (decide (forthL K n c = c)), m) := by
  have hcl : v.closed = true := by obtain ⟨V, rfl, _⟩ := s.V; rfl
  rw [watch_story_consistent.call_eq _ _ _ (by simp [hcl])]
  have hl := hc.len
  have ht : c.take 4 = c := List.take_of_length_le (by omega)
  have h4 : (forthL K n c).length = 4 := forthR_len s hc n 0 c (by omega) hl
  simp [hl, ht, hcl, forth_spec s hc, eql99 h4 hl]
end Go.Proofs.Ytdkmepjedjclkaa
